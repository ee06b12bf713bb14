import Derived.Test.YtlcdabmclcfagaaRfBM
import Derived.Test.YtlcdabmclcfagaaCell2M
set_option linter.unusedVariables false
set_option linter.unusedSimpArgs false
/- Layer 3: the document's struck: contract. -/
namespace Go.Proofs.Ytlcdabmclcfagaa
open Go.RowKit

/-- What strikes, as a value. -/
def HitVal (w : World) (ok : Nat → Prop) (v : Value) : Option Htt → Prop
  | none => v = .agg #[.int .i64 0, .bool false, .slice none 0 0]
  | some h => ∃ Bv d, v = .agg #[.int .i64 h.after, .bool h.fails, .slice Bv h.mask.length d] ∧ RV w Bv (bv h.mask) ∧ (∀ bd, Bv = some bd → 0 < h.mask.length → ok bd.block) ∧ h.mask.length ≤ d ∧ d ≤ maxLen
def StruckEnd (w : World) (F : Nat → Prop) (r : Nat) (L : RLay) (c : Chp) (e : Ending) (w' : World) : Prop :=
  ∃ v A' ch', e = .returned (.tuple #[v, .bool (strikeS c).1.isSome]) ∧ RCx w' F r {L with A := A', ch := ch'} (strikeS c).2 ∧ w.grownBy w' (some r) ∧ HitVal w' (fun k => F k ∧ L.far r k) v (strikeS c).1
theorem HitsP.rgrown {w w' : World} {F : Nat → Prop} {r : Nat} {L : RLay} {A : Option Addr} {l : List Htt} (h : HitsP w (fun k => F k ∧ L.far r k) A l) (hg : w.grownBy w' (some r)) : HitsP w' (fun k => F k ∧ L.far r k) A l :=
  h.keep (fun k hk hlt => grown_ne hg k hlt hk.2.1) (fun k hk _ => hk)
theorem Blk.set3 {w : World} {g : Nat} {t : TypeId} {a b c : Value} (h : Blk w g t #[a, b, c]) (a' b' c' : Value) :
    Blk (((w.setCell ⟨g, 0, none⟩ a').setCell ⟨g, 1, none⟩ b').setCell ⟨g, 2, none⟩ c') g t #[a', b', c'] := by
  have := ((h.set_ 0 a').set_ 1 b').set_ 2 c'
  simpa using this
theorem grown_set3 {w w2 : World} {row : Option Nat} (h : w.grownBy w2 row) {R : Nat} (hR : w.heap.size ≤ R) (a b c : Value) :
    w.grownBy (((w2.setCell ⟨R, 0, none⟩ a).setCell ⟨R, 1, none⟩ b).setCell ⟨R, 2, none⟩ c) row :=
  grown_new_set (grown_new_set (grown_new_set h hR a) hR b) hR c
theorem Blk.far3 {w : World} {g R : Nat} {t : TypeId} {cs : Array Value} (h : Blk w g t cs) (hne : g ≠ R) (a b c : Value) :
    Blk (((w.setCell ⟨R, 0, none⟩ a).setCell ⟨R, 1, none⟩ b).setCell ⟨R, 2, none⟩ c) g t cs := ((h.far (by exact hne) _).far (by exact hne) _).far (by exact hne) _

set_option maxRecDepth 100000 in
set_option maxHeartbeats 1000000 in
theorem struck_any {w : World} {F : Nat → Prop} {r : Nat} {L : RLay} {c : Chp} (h : RCx w F r L c) :
    Calls Try.prog 66 #[.pointer (some ⟨r, 0, none⟩)] w (StruckEnd w F r L c) := by
  have hRB := Blk.new w 36 #[.int .i64 0, .bool false, .slice none 0 0]
  have hb0 := (Below.refl w.heap.size w).alloc (Nat.le_refl _) (.cells #[.int .i64 0, .bool false, .slice none 0 0] 36)
  have hs0 := alloc_sz w (.cells #[.int .i64 0, .bool false, .slice none 0 0] 36)
  have h1 := h.below hb0
  have hlt0 : r < w.heap.size := h.lt _ h.i1.1
  have hg0 : w.grownBy (w.alloc (.cells #[.int .i64 0, .bool false, .slice none 0 0] 36)) (some r) := grown_of_below hb0 _
  obtain ⟨c0, c1, c2, c3, c4, c5, c6, c7, c8, c9⟩ := h1.cells
  have hf := h1.blk.frozen
  have hfa9 := hf 9
  have hfa6 := hf 6
  have hfa7 := hf 7
  have H := Lib.hid (And.intro h1 (And.intro hRB (And.intro hg0 (And.intro hs0 (And.intro hlt0 h)))))
  have hch := h1.ch
  clear c0 c1 c2 c3 c4 c5 c8 hf h h1 hRB hb0 hs0 hlt0 hg0
  obtain ⟨hs, hhs⟩ : ∃ hs, c.hits = hs := ⟨_, rfl⟩
  have HS := Lib.hid hhs
  rw [hhs] at c6 hch
  clear hhs
  cases hs with
  | nil =>
    have t1 : ((0 : Int) == 0) = true := rfl
    simp only [List.length_nil] at c6 hch
    go_enter Try.func66, Try.ntmps66
    go_wp2_with fail
    refine post_cell2 Try.results66 Try.underlying36 rfl #[.int .i64 0, .bool false, .slice none 0 0] rfl (g := w.heap.size) (t := 36) ((H.out.2.1.far (by show w.heap.size ≠ r; have := H.out.2.2.2.2.1; omega) _).set3 _ _ _) (by kernel_rfl) ?_
    have hg : w.grownBy (((((w.alloc (.cells #[.int .i64 0, .bool false, .slice none 0 0] 36)).setCell ⟨r, 9, none⟩ (.int .i64 (wrap64 (c.deeds + 1)))).setCell ⟨w.heap.size, 0, none⟩ (.int .i64 0)).setCell ⟨w.heap.size, 1, none⟩ (.bool false)).setCell ⟨w.heap.size, 2, none⟩ (.slice none 0 0)) (some r) := grown_set3 (grown_trans H.out.2.2.1 (grown_setCell _ r 9 _)) (Nat.le_refl _) _ _ _
    refine ⟨_, L.A, L.ch, by rw [strikeS_nil HS.out]; rfl, ?_, hg, by rw [strikeS_nil HS.out]; rfl⟩
    rw [strikeS_nil HS.out]
    refine H.out.2.2.2.2.2.strct hg.size (grown_ne hg) c.hits c.since _ c.dead L.A L.ch ?_ (H.out.2.2.2.2.2.hits.rgrown hg) H.out.1.ch
    have hb := (H.out.1.blk.set_ 9 (.int .i64 (wrap64 (c.deeds + 1)))).far3 (R := w.heap.size) (by have := H.out.2.2.2.2.1; omega) (.int .i64 0) (.bool false) (.slice none 0 0)
    simpa [refCells, Chp.N] using hb
  | cons x tl =>
    obtain ⟨ad, Bv, d, hA, hok, y0', y1', y2', hrv, hro, l1, l2⟩ := H.out.2.2.2.2.2.hits 0 x (by rw [HS.out]; rfl)
    rw [Nat.zero_mul, add_zero] at y0' y1' y2'
    have hadl := H.out.2.2.2.2.2.lt _ hok.1
    have e0 := Below.heap_alloc w (.cells #[.int .i64 0, .bool false, .slice none 0 0] 36) ad.block hadl
    have y0 := (World.cell?_of_block e0).trans y0'
    have y1 : (w.alloc (.cells #[.int .i64 0, .bool false, .slice none 0 0] 36)).cell? (ad.add 1) = some (.bool x.fails) := (World.cell?_of_block (by rw [block_add]; exact e0)).trans y1'
    have y2 : (w.alloc (.cells #[.int .i64 0, .bool false, .slice none 0 0] 36)).cell? (ad.add 2) = some (.slice Bv x.mask.length d) := (World.cell?_of_block (by rw [block_add]; exact e0)).trans y2'
    clear y0' y1' y2' e0 hadl
    rw [hA] at c6
    have hne : ad.block ≠ r := hok.2.1
    have HV := Lib.hid (And.intro hA (And.intro hrv (And.intro hro (And.intro l1 hok))))
    clear hA hrv hro hok
    by_cases hlt : c.since < x.after
    · have HLT := Lib.hid hlt
      have t0 : decide (c.since < x.after) = true := decide_eq_true hlt
      have z0 : ((w.alloc (.cells #[.int .i64 0, .bool false, .slice none 0 0] 36)).setCell ⟨r, 9, none⟩ (.int .i64 (wrap64 (c.deeds + 1)))).cell? ad = some (.int .i64 x.after) := (World.cell?_of_block (Below.heap_setCell _ _ _ _ hne)).trans y0
      clear y0 y1 y2
      go_enter Try.func66, Try.ntmps66
      go_wp2_with fail
      go_quiet (fail)
      go_wp2_with fail
      refine post_cell2 Try.results66 Try.underlying36 rfl #[.int .i64 0, .bool false, .slice none 0 0] rfl (g := w.heap.size) (t := 36) ((show Blk ((((w.alloc (.cells #[.int .i64 0, .bool false, .slice none 0 0] 36)).setCell ⟨r, 9, none⟩ (.int .i64 (wrap64 (c.deeds + 1)))).drewN nq).setCell ⟨r, 7, none⟩ (.int .i64 (wrap64 (c.since + 1)))) w.heap.size 36 _ from ((show Blk (((w.alloc (.cells #[.int .i64 0, .bool false, .slice none 0 0] 36)).setCell ⟨r, 9, none⟩ (.int .i64 (wrap64 (c.deeds + 1)))).drewN nq) w.heap.size 36 _ from H.out.2.1.far (by show w.heap.size ≠ r; have := H.out.2.2.2.2.1; omega) _)).far (by show w.heap.size ≠ r; have := H.out.2.2.2.2.1; omega) _).set3 _ _ _) (by kernel_rfl) ?_
      have hg : w.grownBy (((((((w.alloc (.cells #[.int .i64 0, .bool false, .slice none 0 0] 36)).setCell ⟨r, 9, none⟩ (.int .i64 (wrap64 (c.deeds + 1)))).drewN nq).setCell ⟨r, 7, none⟩ (.int .i64 (wrap64 (c.since + 1)))).setCell ⟨w.heap.size, 0, none⟩ (.int .i64 0)).setCell ⟨w.heap.size, 1, none⟩ (.bool false)).setCell ⟨w.heap.size, 2, none⟩ (.slice none 0 0)) (some r) := grown_set3 (grown_trans (grown_trans H.out.2.2.1 (grown_set_drew _ r 9 _ nq)) (grown_setCell _ r 7 _)) (Nat.le_refl _) _ _ _
      refine ⟨_, L.A, L.ch, by rw [strikeS_wait HS.out HLT.out]; rfl, ?_, hg, by rw [strikeS_wait HS.out HLT.out]; rfl⟩
      rw [strikeS_wait HS.out HLT.out]
      refine H.out.2.2.2.2.2.strct hg.size (grown_ne hg) c.hits _ _ c.dead L.A L.ch ?_ (H.out.2.2.2.2.2.hits.rgrown hg) H.out.1.ch
      have hb0 : Blk (((w.alloc (.cells #[.int .i64 0, .bool false, .slice none 0 0] 36)).setCell ⟨r, 9, none⟩ (.int .i64 (wrap64 (c.deeds + 1)))).drewN nq) r 56 _ := H.out.1.blk.set_ 9 (.int .i64 (wrap64 (c.deeds + 1)))
      have hb := (hb0.set_ 7 (.int .i64 (wrap64 (c.since + 1)))).far3 (R := w.heap.size) (by have := H.out.2.2.2.2.1; omega) (.int .i64 0) (.bool false) (.slice none 0 0)
      simpa [refCells, Chp.N] using hb
    · have HLT := Lib.hid hlt
      have t0 : decide (c.since < x.after) = false := decide_eq_false hlt
      have z0 : ((w.alloc (.cells #[.int .i64 0, .bool false, .slice none 0 0] 36)).setCell ⟨r, 9, none⟩ (.int .i64 (wrap64 (c.deeds + 1)))).cell? ad = some (.int .i64 x.after) := (World.cell?_of_block (Below.heap_setCell _ _ _ _ hne)).trans y0
      have z1 : ((w.alloc (.cells #[.int .i64 0, .bool false, .slice none 0 0] 36)).setCell ⟨r, 9, none⟩ (.int .i64 (wrap64 (c.deeds + 1)))).cell? ⟨ad.block, ad.off + 1, none⟩ = some (.bool x.fails) := (World.cell?_of_block (a := ⟨ad.block, ad.off + 1, none⟩) (Below.heap_setCell _ _ _ _ hne)).trans y1
      have z2 : ((w.alloc (.cells #[.int .i64 0, .bool false, .slice none 0 0] 36)).setCell ⟨r, 9, none⟩ (.int .i64 (wrap64 (c.deeds + 1)))).cell? ⟨ad.block, ad.off + 2, none⟩ = some (.slice Bv x.mask.length d) := (World.cell?_of_block (a := ⟨ad.block, ad.off + 2, none⟩) (Below.heap_setCell _ _ _ _ hne)).trans y2
      have hsz : ((w.alloc (.cells #[.int .i64 0, .bool false, .slice none 0 0] 36)).setCell ⟨r, 9, none⟩ (.int .i64 (wrap64 (c.deeds + 1)))).heap.size = w.heap.size + 1 := by simp [World.setCell]
      clear y0 y1 y2
      go_enter Try.func66, Try.ntmps66
      go_wp2_with fail
      go_quiet (fail)
      have hbk : Blk (((w.alloc (.cells #[.int .i64 0, .bool false, .slice none 0 0] 36)).setCell ⟨r, 9, none⟩ (.int .i64 (wrap64 (c.deeds + 1)))).drewN nq) r 56 _ := H.out.1.blk.set_ 9 (.int .i64 (wrap64 (c.deeds + 1)))
      have hbR : Blk (((w.alloc (.cells #[.int .i64 0, .bool false, .slice none 0 0] 36)).setCell ⟨r, 9, none⟩ (.int .i64 (wrap64 (c.deeds + 1)))).drewN nq) w.heap.size 36 _ := H.out.2.1.far (by show w.heap.size ≠ r; have := H.out.2.2.2.2.1; omega) _
      have hg1 : w.grownBy (((w.alloc (.cells #[.int .i64 0, .bool false, .slice none 0 0] 36)).setCell ⟨r, 9, none⟩ (.int .i64 (wrap64 (c.deeds + 1)))).drewN nq) (some r) := grown_trans H.out.2.2.1 (grown_set_drew _ r 9 _ nq)
      have hsz1 : (((w.alloc (.cells #[.int .i64 0, .bool false, .slice none 0 0] 36)).setCell ⟨r, 9, none⟩ (.int .i64 (wrap64 (c.deeds + 1)))).drewN nq).heap.size = w.heap.size + 1 := hsz
      replace z0 : (((w.alloc (.cells #[.int .i64 0, .bool false, .slice none 0 0] 36)).setCell ⟨r, 9, none⟩ (.int .i64 (wrap64 (c.deeds + 1)))).drewN nq).cell? ad = some (.int .i64 x.after) := z0
      replace z1 : (((w.alloc (.cells #[.int .i64 0, .bool false, .slice none 0 0] 36)).setCell ⟨r, 9, none⟩ (.int .i64 (wrap64 (c.deeds + 1)))).drewN nq).cell? ⟨ad.block, ad.off + 1, none⟩ = some (.bool x.fails) := z1
      replace z2 : (((w.alloc (.cells #[.int .i64 0, .bool false, .slice none 0 0] 36)).setCell ⟨r, 9, none⟩ (.int .i64 (wrap64 (c.deeds + 1)))).drewN nq).cell? ⟨ad.block, ad.off + 2, none⟩ = some (.slice Bv x.mask.length d) := z2
      have hr0 := H.out.2.2.2.2.1
      generalize ((w.alloc (.cells #[.int .i64 0, .bool false, .slice none 0 0] 36)).setCell ⟨r, 9, none⟩ (.int .i64 (wrap64 (c.deeds + 1)))).drewN nq = W1 at *
      have hb1 := hbk.alloc (.cells #[.int .i64 x.after, .bool x.fails, .slice Bv x.mask.length d] 36)
      have hbR1 := hbR.alloc (.cells #[.int .i64 x.after, .bool x.fails, .slice Bv x.mask.length d] 36)
      have hB1 := Blk.new W1 36 #[.int .i64 x.after, .bool x.fails, .slice Bv x.mask.length d]
      have hg2 := grown_trans hg1 (grown_of_below ((Below.refl W1.heap.size W1).alloc (Nat.le_refl _) (.cells #[.int .i64 x.after, .bool x.fails, .slice Bv x.mask.length d] 36)) (some r))
      have q60 := hbk.cell 6
      have q6 := hb1.cell 6
      have q7 := hb1.cell 7
      have f6 := hb1.frozen 6
      have f7 := hb1.frozen 7
      have hh : c.hits.length = tl.length + 1 := by rw [HS.out]; rfl
      simp [refCells, HV.out.1, hh] at q60 q6 q7
      have hHr : W1.heap.size ≠ r := by omega
      have hRr : w.heap.size ≠ r := by omega
      have hH : ∀ (u : Value) i, (((W1.alloc (.cells #[.int .i64 x.after, .bool x.fails, .slice Bv x.mask.length d] 36)).setCell ⟨r, 6, none⟩ u).setCell ⟨r, 7, none⟩ (.int .i64 0)).cell? ⟨W1.heap.size, i, none⟩ = #[Value.int .i64 x.after, .bool x.fails, .slice Bv x.mask.length d][i]? := fun u i => ((hB1.far (by exact hHr) _).far (by exact hHr) _).cell i
      have m0 := fun u => hH u 0
      have m1 := fun u => hH u 1
      have m2 := fun u => hH u 2
      simp at m0 m1 m2
      have hRf : ∀ (u : Value) i, (((W1.alloc (.cells #[.int .i64 x.after, .bool x.fails, .slice Bv x.mask.length d] 36)).setCell ⟨r, 6, none⟩ u).setCell ⟨r, 7, none⟩ (.int .i64 0)).frozen? ⟨w.heap.size, i, none⟩ = false := fun u i => ((hbR1.far (by exact hRr) _).far (by exact hRr) _).frozen i
      have hRc : ∀ (u : Value) i, (((W1.alloc (.cells #[.int .i64 x.after, .bool x.fails, .slice Bv x.mask.length d] 36)).setCell ⟨r, 6, none⟩ u).setCell ⟨r, 7, none⟩ (.int .i64 0)).cell? ⟨w.heap.size, i, none⟩ = #[Value.int .i64 0, .bool false, .slice none 0 0][i]? := fun u i => ((hbR1.far (by exact hRr) _).far (by exact hRr) _).cell i
      have n0 := fun u => hRc u 0
      have n1 := fun u => hRc u 1
      have n2 := fun u => hRc u 2
      simp at n0 n1 n2
      have HB := Lib.hid (And.intro hb1 (And.intro hbR1 (And.intro hg2 hRr)))
      have HK := Lib.hid H.out.2.2.2.2.2
      have HFN : ∀ (A' : Option Addr), (tl ≠ [] → A' = some ⟨ad.block, ad.off + 3, none⟩) → StruckEnd w F r L c (.returned (.tuple #[.agg #[.int .i64 x.after, .bool x.fails, .slice Bv x.mask.length d], .bool true])) ((((((W1.alloc (.cells #[.int .i64 x.after, .bool x.fails, .slice Bv x.mask.length d] 36)).setCell ⟨r, 6, none⟩ (.slice A' tl.length (L.ch - 1))).setCell ⟨r, 7, none⟩ (.int .i64 0)).setCell ⟨w.heap.size, 0, none⟩ (.int .i64 x.after)).setCell ⟨w.heap.size, 1, none⟩ (.bool x.fails)).setCell ⟨w.heap.size, 2, none⟩ (.slice Bv x.mask.length d)) := fun A' hA' => by
        have hg : w.grownBy ((((((W1.alloc (.cells #[.int .i64 x.after, .bool x.fails, .slice Bv x.mask.length d] 36)).setCell ⟨r, 6, none⟩ (.slice A' tl.length (L.ch - 1))).setCell ⟨r, 7, none⟩ (.int .i64 0)).setCell ⟨w.heap.size, 0, none⟩ (.int .i64 x.after)).setCell ⟨w.heap.size, 1, none⟩ (.bool x.fails)).setCell ⟨w.heap.size, 2, none⟩ (.slice Bv x.mask.length d)) (some r) := grown_set3 (grown_trans (grown_trans HB.out.2.2.1 (grown_setCell _ r 6 _)) (grown_setCell _ r 7 _)) (Nat.le_refl _) _ _ _
        have hnl : ¬ c.since < x.after := by have := HLT.out; omega
        have hch' := hch
        simp only [List.length_cons] at hch'
        have hrv0 := And.intro HV.out.2.1 HV.out.2.2.1
        refine ⟨_, A', L.ch - 1, by rw [strikeS_hit HS.out hnl]; rfl, ?_, hg, ?_⟩
        · rw [strikeS_hit HS.out hnl]
          refine HK.out.strct hg.size (grown_ne hg) tl 0 _ c.dead A' (L.ch - 1) ?_ ?_ ⟨by omega, by omega⟩
          · have hb := ((HB.out.1.set_ 6 (.slice A' tl.length (L.ch - 1))).set_ 7 (.int .i64 0)).far3 (R := w.heap.size) (Ne.symm HB.out.2.2.2) (.int .i64 x.after) (.bool x.fails) (.slice Bv x.mask.length d)
            simpa [refCells, Chp.N] using hb
          · have h1 := HK.out.hits
            rw [HS.out, HV.out.1] at h1
            exact (h1.tail.rgrown hg).addr (fun hne => (hA' hne).symm)
        · rw [strikeS_hit HS.out hnl]
          refine ⟨Bv, d, rfl, hrv0.1.grown hg (fun bd hB hn e => ?_), hrv0.2, l1, l2⟩
          injection e with e
          exact (hrv0.2 bd hB (by rwa [bv_length] at hn)).2.1 e
      have HFN := Lib.hid HFN
      have HSZ := Lib.hid hsz1
      clear hbk hg1 hb1 hbR hbR1 hB1 hg2 hsz hsz1 hh hH hRc
      have hch1 : tl.length + 1 ≤ L.ch := by simpa using hch.1
      have hch2 := hch.2
      clear hch
      generalize L.ch = lc at *
      by_cases hl1 : lc = 1
      · subst hl1
        obtain rfl : tl = [] := List.eq_nil_of_length_eq_zero (by omega)
        simp only [List.length_nil] at q60 q6
        go_wp2_with fail
        refine post_cell2 Try.results66 Try.underlying36 rfl #[.int .i64 x.after, .bool x.fails, .slice Bv x.mask.length d] rfl (g := w.heap.size) (t := 36) (((HB.out.2.1.far (by exact HB.out.2.2.2) _).far (by exact HB.out.2.2.2) _).set3 _ _ _) (by kernel_rfl) ?_
        exact HFN.out _ (fun h => absurd rfl h)
      · go_wp2_with fail
        refine post_cell2 Try.results66 Try.underlying36 rfl #[.int .i64 x.after, .bool x.fails, .slice Bv x.mask.length d] rfl (g := w.heap.size) (t := 36) (((HB.out.2.1.far (by exact HB.out.2.2.2) _).far (by exact HB.out.2.2.2) _).set3 _ _ _) (by kernel_rfl) ?_
        exact HFN.out _ (fun _ => rfl)
end Go.Proofs.Ytlcdabmclcfagaa
