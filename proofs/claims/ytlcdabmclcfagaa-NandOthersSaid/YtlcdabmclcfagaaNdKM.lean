import Derived.Test.YtlcdabmclcfagaaNdAM
set_option linter.unusedVariables false
set_option linter.unusedSimpArgs false
/- Layer 3: strike: contract. -/
namespace Go.Proofs.Ytlcdabmclcfagaa
open Go.RowKit

/-- What strikes, in a variable of its own. -/
def HitAt (w : World) (ok : Nat → Prop) (base : Nat) (p : Option Addr) : Option Htt → Prop
  | none => p = none
  | some h => ∃ g Bv d, p = some ⟨g, 0, none⟩ ∧ base ≤ g ∧ Blk w g 36 #[.int .i64 h.after, .bool h.fails, .slice Bv h.mask.length d] ∧ RV w Bv (bv h.mask) ∧ (∀ bd, Bv = some bd → 0 < h.mask.length → ok bd.block) ∧ h.mask.length ≤ d ∧ d ≤ maxLen
def StrikeEnd (w : World) (F : Nat → Prop) (a : Nat) (L : Lay) (c : Chp) (e : Ending) (w' : World) : Prop :=
  ∃ p A' ch', e = .returned (.pointer p) ∧ PCx w' F a {L with A := A', ch := ch'} (strikeS c).2 ∧ w.grownBy w' (some a) ∧ HitAt w' (fun k => F k ∧ L.far a c.B k) w.heap.size p (strikeS c).1

theorem strikeS_nil {c : Chp} (h : c.hits = []) : strikeS c = (none, {c with deeds := wrap64 (c.deeds + 1)}) := by
  unfold strikeS
  rw [h]
theorem strikeS_wait {c : Chp} {x : Htt} {r : List Htt} (h : c.hits = x :: r) (ha : c.since < x.after) : strikeS c = (none, {c with deeds := wrap64 (c.deeds + 1), since := wrap64 (c.since + 1)}) := by
  unfold strikeS
  rw [h]
  dsimp only
  rw [if_pos ha]
theorem strikeS_hit {c : Chp} {x : Htt} {r : List Htt} (h : c.hits = x :: r) (ha : ¬ c.since < x.after) : strikeS c = (some x, {c with deeds := wrap64 (c.deeds + 1), hits := r, since := 0}) := by
  unfold strikeS
  rw [h]
  dsimp only
  rw [if_neg ha]
theorem grown_set_drew (w : World) (a i : Nat) (u : Value) (n : Nat) : w.grownBy ((w.setCell ⟨a, i, none⟩ u).drewN n) (some a) := grown_trans (grown_setCell w a i u) (grown_drewN _ n _)
theorem grown_ne {w w' : World} {a : Nat} (h : w.grownBy w' (some a)) : ∀ k, k < w.heap.size → k ≠ a → w'.heap[k]? = w.heap[k]? := fun k hk hne => h.block k hk (fun e => hne (by injection e))
theorem HitsP.grown {w w' : World} {F : Nat → Prop} {a B : Nat} {L : Lay} {A : Option Addr} {l : List Htt} (h : HitsP w (fun k => F k ∧ L.far a B k) A l) (hg : w.grownBy w' (some a)) : HitsP w' (fun k => F k ∧ L.far a B k) A l :=
  h.keep (fun k hk hlt => grown_ne hg k hlt hk.2.1) (fun k hk _ => hk)

set_option maxRecDepth 100000 in
set_option maxHeartbeats 1000000 in
theorem strike_pc {w : World} {F : Nat → Prop} {a : Nat} {L : Lay} {c : Chp} (h : PCx w F a L c) :
    Calls Try.prog 57 #[.pointer (some ⟨a, 0, none⟩)] w (StrikeEnd w F a L c) := by
  obtain ⟨c0, c1, c2, c3, c4, c5, c6, c7, c8, c9⟩ := h.cells
  have hf := h.blk.frozen
  have hfa9 := hf 9
  have hfa6 := hf 6
  have hfa7 := hf 7
  have H := Lib.hid h
  have hch := h.ch
  clear c0 c1 c2 c3 c4 c5 c8 hf h
  obtain ⟨hs, hhs⟩ : ∃ hs, c.hits = hs := ⟨_, rfl⟩
  have HS := Lib.hid hhs
  rw [hhs] at c6 hch
  clear hhs
  cases hs with
  | nil =>
    have t1 : ((0 : Int) == 0) = true := rfl
    simp only [List.length_nil] at c6 hch
    go_enter Try.func57, Try.ntmps57
    go_wp2_with fail
    go_ret
    have hg : w.grownBy (w.setCell ⟨a, 9, none⟩ (.int .i64 (wrap64 (c.deeds + 1)))) (some a) := grown_setCell w a 9 _
    refine ⟨none, L.A, L.ch, rfl, ?_, hg, by rw [strikeS_nil HS.out]; rfl⟩
    rw [strikeS_nil HS.out]
    refine H.out.strct hg.size (grown_ne hg) c.hits c.since _ c.dead L.A L.ch ?_ (H.out.hits.grown hg) H.out.ch
    have hb := H.out.blk.set_ 9 (.int .i64 (wrap64 (c.deeds + 1)))
    simpa [chipCells] using hb
  | cons x r =>
    obtain ⟨ad, Bv, d, hA, hok, y0, y1, y2, hrv, hro, l1, l2⟩ := H.out.hits 0 x (by rw [HS.out]; rfl)
    rw [Nat.zero_mul, add_zero] at y0 y1 y2
    rw [hA] at c6
    have hne : ad.block ≠ a := hok.2.1
    have HV := Lib.hid (And.intro hA (And.intro hrv (And.intro hro (And.intro l1 hok))))
    clear hA hrv hro hok
    by_cases hlt : c.since < x.after
    · have HLT := Lib.hid hlt
      have t0 : decide (c.since < x.after) = true := decide_eq_true hlt
      have z0 : (w.setCell ⟨a, 9, none⟩ (.int .i64 (wrap64 (c.deeds + 1)))).cell? ad = some (.int .i64 x.after) := (World.cell?_of_block (Below.heap_setCell _ _ _ _ hne)).trans y0
      clear y0 y1 y2
      go_enter Try.func57, Try.ntmps57
      go_wp2_with fail
      go_quiet (fail)
      go_wp2_with fail
      go_ret
      have hg : w.grownBy (((w.setCell ⟨a, 9, none⟩ (.int .i64 (wrap64 (c.deeds + 1)))).drewN nq).setCell ⟨a, 7, none⟩ (.int .i64 (wrap64 (c.since + 1)))) (some a) := grown_trans (grown_set_drew w a 9 _ nq) (grown_setCell _ a 7 _)
      refine ⟨none, L.A, L.ch, rfl, ?_, hg, by rw [strikeS_wait HS.out HLT.out]; rfl⟩
      rw [strikeS_wait HS.out HLT.out]
      refine H.out.strct hg.size (grown_ne hg) c.hits _ _ c.dead L.A L.ch ?_ (H.out.hits.grown hg) H.out.ch
      have hb : Blk ((w.setCell ⟨a, 9, none⟩ (.int .i64 (wrap64 (c.deeds + 1)))).drewN nq) a 65 _ := H.out.blk.set_ 9 (.int .i64 (wrap64 (c.deeds + 1)))
      have hb := hb.set_ 7 (.int .i64 (wrap64 (c.since + 1)))
      simpa [chipCells] using hb
    · have HLT := Lib.hid hlt
      have t0 : decide (c.since < x.after) = false := decide_eq_false hlt
      have z0 : (w.setCell ⟨a, 9, none⟩ (.int .i64 (wrap64 (c.deeds + 1)))).cell? ad = some (.int .i64 x.after) := (World.cell?_of_block (Below.heap_setCell _ _ _ _ hne)).trans y0
      have z1 : (w.setCell ⟨a, 9, none⟩ (.int .i64 (wrap64 (c.deeds + 1)))).cell? ⟨ad.block, ad.off + 1, none⟩ = some (.bool x.fails) := (World.cell?_of_block (a := ⟨ad.block, ad.off + 1, none⟩) (Below.heap_setCell _ _ _ _ hne)).trans y1
      have z2 : (w.setCell ⟨a, 9, none⟩ (.int .i64 (wrap64 (c.deeds + 1)))).cell? ⟨ad.block, ad.off + 2, none⟩ = some (.slice Bv x.mask.length d) := (World.cell?_of_block (a := ⟨ad.block, ad.off + 2, none⟩) (Below.heap_setCell _ _ _ _ hne)).trans y2
      have hsz : (w.setCell ⟨a, 9, none⟩ (.int .i64 (wrap64 (c.deeds + 1)))).heap.size = w.heap.size := by simp [World.setCell]
      clear y0 y1 y2
      go_enter Try.func57, Try.ntmps57
      go_wp2_with fail
      go_quiet (fail)
      have hbk : Blk ((w.setCell ⟨a, 9, none⟩ (.int .i64 (wrap64 (c.deeds + 1)))).drewN nq) a 65 _ := H.out.blk.set_ 9 (.int .i64 (wrap64 (c.deeds + 1)))
      have hg1 : w.grownBy ((w.setCell ⟨a, 9, none⟩ (.int .i64 (wrap64 (c.deeds + 1)))).drewN nq) (some a) := grown_set_drew w a 9 _ nq
      have hsz1 : ((w.setCell ⟨a, 9, none⟩ (.int .i64 (wrap64 (c.deeds + 1)))).drewN nq).heap.size = w.heap.size := hsz
      replace z0 : ((w.setCell ⟨a, 9, none⟩ (.int .i64 (wrap64 (c.deeds + 1)))).drewN nq).cell? ad = some (.int .i64 x.after) := z0
      replace z1 : ((w.setCell ⟨a, 9, none⟩ (.int .i64 (wrap64 (c.deeds + 1)))).drewN nq).cell? ⟨ad.block, ad.off + 1, none⟩ = some (.bool x.fails) := z1
      replace z2 : ((w.setCell ⟨a, 9, none⟩ (.int .i64 (wrap64 (c.deeds + 1)))).drewN nq).cell? ⟨ad.block, ad.off + 2, none⟩ = some (.slice Bv x.mask.length d) := z2
      generalize (w.setCell ⟨a, 9, none⟩ (.int .i64 (wrap64 (c.deeds + 1)))).drewN nq = W1 at *
      have hb1 := hbk.alloc (.cells #[.int .i64 x.after, .bool x.fails, .slice Bv x.mask.length d] 36)
      have hB1 := Blk.new W1 36 #[.int .i64 x.after, .bool x.fails, .slice Bv x.mask.length d]
      have hg2 := grown_trans hg1 (grown_of_below ((Below.refl W1.heap.size W1).alloc (Nat.le_refl _) (.cells #[.int .i64 x.after, .bool x.fails, .slice Bv x.mask.length d] 36)) (some a))
      have q60 := hbk.cell 6
      have q6 := hb1.cell 6
      have q7 := hb1.cell 7
      have f6 := hb1.frozen 6
      have f7 := hb1.frozen 7
      have hh : c.hits.length = r.length + 1 := by rw [HS.out]; rfl
      simp [chipCells, HV.out.1, hh] at q60 q6 q7
      have HB := Lib.hid (And.intro hb1 (And.intro hB1 (And.intro hg2 hsz1)))
      have hlta : a < w.heap.size := H.out.lt _ H.out.i1.1
      have FIN : ∀ (A' : Option Addr), (r ≠ [] → A' = some ⟨ad.block, ad.off + 3, none⟩) → StrikeEnd w F a L c (.returned (.pointer (some ⟨w.heap.size, 0, none⟩))) (((W1.alloc (.cells #[.int .i64 x.after, .bool x.fails, .slice Bv x.mask.length d] 36)).setCell ⟨a, 6, none⟩ (.slice A' r.length (L.ch - 1))).setCell ⟨a, 7, none⟩ (.int .i64 0)) := fun A' hA' => by
        have hg : w.grownBy (((W1.alloc (.cells #[.int .i64 x.after, .bool x.fails, .slice Bv x.mask.length d] 36)).setCell ⟨a, 6, none⟩ (.slice A' r.length (L.ch - 1))).setCell ⟨a, 7, none⟩ (.int .i64 0)) (some a) := grown_trans (grown_trans HB.out.2.2.1 (grown_setCell _ a 6 _)) (grown_setCell _ a 7 _)
        have hnl : ¬ c.since < x.after := by have := HLT.out; omega
        have hch' := hch
        simp only [List.length_cons] at hch'
        refine ⟨_, A', L.ch - 1, rfl, ?_, hg, ?_⟩
        · rw [strikeS_hit HS.out hnl]
          refine H.out.strct hg.size (grown_ne hg) r 0 _ c.dead A' (L.ch - 1) ?_ ?_ ⟨by omega, by omega⟩
          · have hb := (HB.out.1.set_ 6 (.slice A' r.length (L.ch - 1))).set_ 7 (.int .i64 0)
            simpa [chipCells] using hb
          · have h1 := H.out.hits
            rw [HS.out, HV.out.1] at h1
            exact (h1.tail.grown hg).addr (fun hne => (hA' hne).symm)
        · rw [strikeS_hit HS.out hnl]
          refine ⟨w.heap.size, Bv, d, rfl, Nat.le_refl _, ?_, HV.out.2.1.grown hg (fun bd hB hn e => ?_), HV.out.2.2.1, l1, l2⟩
          · have h1 := HB.out.2.1
            rw [hsz1] at h1
            exact (h1.far (by show w.heap.size ≠ a; omega) _).far (by show w.heap.size ≠ a; omega) _
          · injection e with e
            exact (HV.out.2.2.1 bd hB (by rwa [bv_length] at hn)).2.1 e
      have FIN := Lib.hid FIN
      clear hbk hg1 hb1 hB1 hg2 hsz hh
      have hch1 : r.length + 1 ≤ L.ch := by simpa using hch.1
      have hch2 := hch.2
      clear hch hlta
      generalize L.ch = lc at *
      by_cases hl1 : lc = 1
      · subst hl1
        obtain rfl : r = [] := List.eq_nil_of_length_eq_zero (by omega)
        simp only [List.length_nil] at q60 q6
        go_wp2_with fail
        go_ret
        exact FIN.out _ (fun h => absurd rfl h)
      · go_wp2_with fail
        go_ret
        exact FIN.out _ (fun _ => rfl)
end Go.Proofs.Ytlcdabmclcfagaa
