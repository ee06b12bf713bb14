import Derived.Test.YtlcdabmclcfagaaNdHM
import Derived.Test.YtlcdabmclcfagaaNdMkM
set_option linter.unusedVariables false
set_option linter.unusedSimpArgs false
/- Layer 3: Power: contract. -/
namespace Go.Proofs.Ytlcdabmclcfagaa
open Go.RowKit

def PowerEnd (w : World) (c : Chp) (e : Ending) (w' : World) : Prop :=
  ∃ g, e = .returned (.tuple #[.pointer (some ⟨g, 0, none⟩), .int .i64 0]) ∧ PC w' (fsh w w') g (powerS c) ∧ Below w.heap.size w w'
theorem ChOk.power {c : Chp} (h : ChOk c) : ChOk (powerS c) := ⟨h.b1, h.b2, h.p1, h.p2, h.s1, h.s2, h.sp, h.len, h.bads⟩
theorem bads_rv {w : World} {F : Nat → Prop} {a : Nat} {L : Lay} {c : Chp} (h : PCx w F a L c) : RV w (some ⟨L.kd, 0, none⟩) (c.bad.map Value.bool) := fun _ => ⟨_, rfl, fun j u hu => by
  rw [add_lit0, h.kd.cell j]
  have hj := (List.getElem?_eq_some_iff.1 hu).1
  simp only [List.getElem?_toArray]
  rw [List.getElem?_append_left hj]
  exact hu⟩
theorem PCx.rvRow {w : World} {F : Nat → Prop} {a : Nat} {L : Lay} {c : Chp} (h : PCx w F a L c) {b : Nat} (hb : b < c.B) : RV w (some ⟨L.kr b, 0, none⟩) (bv (c.row b)) := by
  have h1 := h.rvDrop (b := b) (off := 0) hb (Nat.zero_le _)
  rwa [List.drop_zero] at h1
/-- One row more: the words of the chip that is made. -/
theorem made_step {w2 wr w3 w5 : World} {g kd cd B P S Sp j : Nat} {v v5 : Value} {ps : List (List UInt8 × Value)} {x : List UInt8} {u : Value} (hg : g < w2.heap.size)
    (hbk : Blk wr g 65 (madeCells_ B P S Sp v kd cd)) (hown : OwnBk wr w2.heap.size v j ps) (hgr : w2.grownBy wr (some g)) (hb3 : Below wr.heap.size wr w3)
    (ho5 : OwnBk w5 w2.heap.size v5 (j + 1) (ps ++ [(x, u)])) (hg5 : w3.grownBy w5 v.ownBlock) :
    w5.cell? ⟨g, 4, none⟩ = some v ∧ w5.frozen? ⟨g, 4, none⟩ = false ∧ Blk (w5.setCell ⟨g, 4, none⟩ v5) g 65 (madeCells_ B P S Sp v5 kd cd) ∧ OwnBk (w5.setCell ⟨g, 4, none⟩ v5) w2.heap.size v5 (j + 1) (ps ++ [(x, u)]) ∧ w2.grownBy (w5.setCell ⟨g, 4, none⟩ v5) (some g) := by
  have hvg : some g ≠ v.ownBlock := fun e => by have := (hown.blk e.symm).1; omega
  have hbk5 := (hbk.below hb3 hbk.lt).grown hg5 hvg
  have hb6 := hbk5.set_ 4 v5
  refine ⟨hbk5.cell 4, hbk5.frozen 4, by simpa [madeCells_] using hb6, ho5.far (grown_setCell w5 g 4 v5) hg, ?_⟩
  refine ⟨(show w5.os = _ from hg5.os).trans (hb3.os.trans hgr.os), (show w5.tape = _ from hg5.tape).trans (hb3.tape.trans hgr.tape), (show w5.output = _ from hg5.output).trans (hb3.output.trans hgr.output), ?_, fun k hk hne => ?_⟩
  · have h1 := hg5.size
    have h2 := hb3.size
    have h4 := hgr.size
    have h3 : (w5.setCell ⟨g, 4, none⟩ v5).heap.size = w5.heap.size := by simp [World.setCell]
    omega
  · have hne' : k ≠ g := fun e => hne (by rw [e])
    have h2 := hgr.size
    have h3 := hb3.size
    refine (Below.heap_setCell _ _ _ _ hne').trans ((hg5.block k (by omega) (fun e => ?_)).trans ((hb3.block k (by omega)).trans (hgr.block k hk hne)))
    have := (hown.blk e.symm).1
    omega

set_option maxRecDepth 100000 in
set_option maxHeartbeats 4000000 in
theorem power_pc {w : World} {F : Nat → Prop} {a : Nat} {L : Lay} {c : Chp} (h : PCx w F a L c) :
    Calls Try.prog 18 #[.pointer (some ⟨a, 0, none⟩)] w (PowerEnd w c) := by
  have HO := Lib.hid (off_pc h)
  obtain ⟨c0, c1, c2, c3, c4, c5, c6, c7, c8, c9⟩ := h.cells
  have hB1 := h.ok.b1
  have hB2 := h.ok.b2
  have HCB := Lib.hid (fun w' (hb : Below w.heap.size w w') => cloneBo w' ⟨L.kd, 0, none⟩ c.B L.cd c.bad h.ok.bads (by omega) ((bads_rv h).below hb) (by omega))
  have H := Lib.hid h
  obtain ⟨ii, iz, hii, hiz, hi1, hi2, hi3⟩ := bk_info'
  clear c6 c7 c8 c9 h
  go_enter Try.func18, Try.ntmps18
  go_wp2_with fail
  refine HO.out.mono ?_
  rintro e w0 ⟨rfl, rfl⟩
  go_wp2_with fail
  refine wp_region_G (fun w' : World => w'.cell? ⟨a, 0, none⟩ = some (.int .i64 (c.B : Int)) ∧ w'.cell? ⟨a, 1, none⟩ = some (.int .i64 (c.P : Int)) ∧ w'.cell? ⟨a, 2, none⟩ = some (.int .i64 (c.S : Int)) ∧ w'.cell? ⟨a, 3, none⟩ = some (.int .i64 (c.Sp : Int)) ∧ w'.cell? ⟨a, 5, none⟩ = some (.slice (some ⟨L.kd, 0, none⟩) c.B L.cd)) 11 12 #[false, false, false, false, false, false, false, false, false, false, false, false] (by kernel_rfl) rfl (by kernel_rfl) ?_
  have hS0 : (fun w' : World => w'.cell? ⟨a, 0, none⟩ = some (.int .i64 (c.B : Int)) ∧ w'.cell? ⟨a, 1, none⟩ = some (.int .i64 (c.P : Int)) ∧ w'.cell? ⟨a, 2, none⟩ = some (.int .i64 (c.S : Int)) ∧ w'.cell? ⟨a, 3, none⟩ = some (.int .i64 (c.Sp : Int)) ∧ w'.cell? ⟨a, 5, none⟩ = some (.slice (some ⟨L.kd, 0, none⟩) c.B L.cd)) w0.drew := ⟨c0, c1, c2, c3, c5⟩
  dsimp only at hS0
  refine wpAnyG_takeL (i := 0) (v := ?v1) (fuel := 11) (listed' := #[true, false, false, false, false, false, false, false, false, false, false, false]) rfl (by kernel_rfl) (fun _ _ _ h => h) (.inl ⟨by rfl, ?hy1⟩) (by assumption) (by kernel_rfl) ?rest1
  case hy1 => (intro w' hSw; (try dsimp only at hSw); go_simp; try with_reducible rfl)
  try simp only [Act.put, List.setIfInBounds_toArray, List.set_cons_zero, List.set_cons_succ]
  refine wpAnyG_takeL (i := 1) (v := ?v2) (fuel := 10) (listed' := #[true, true, false, false, false, false, false, false, false, false, false, false]) rfl (by kernel_rfl) (fun _ _ _ h => h) (.inl ⟨by rfl, ?hy2⟩) (by assumption) (by kernel_rfl) ?rest2
  case hy2 => (intro w' hSw; (try dsimp only at hSw); go_simp; try with_reducible rfl)
  try simp only [Act.put, List.setIfInBounds_toArray, List.set_cons_zero, List.set_cons_succ]
  refine wpAnyG_takeL (i := 2) (v := ?v3) (fuel := 9) (listed' := #[true, true, true, false, false, false, false, false, false, false, false, false]) rfl (by kernel_rfl) (fun _ _ _ h => h) (.inl ⟨by rfl, ?hy3⟩) (by assumption) (by kernel_rfl) ?rest3
  case hy3 => (intro w' hSw; (try dsimp only at hSw); go_simp; try with_reducible rfl)
  try simp only [Act.put, List.setIfInBounds_toArray, List.set_cons_zero, List.set_cons_succ]
  refine wpAnyG_takeL (i := 3) (v := ?v4) (fuel := 8) (listed' := #[true, true, true, true, false, false, false, false, false, false, false, false]) rfl (by kernel_rfl) (fun _ _ _ h => h) (.inl ⟨by rfl, ?hy4⟩) (by assumption) (by kernel_rfl) ?rest4
  case hy4 => (intro w' hSw; (try dsimp only at hSw); go_simp; try with_reducible rfl)
  try simp only [Act.put, List.setIfInBounds_toArray, List.set_cons_zero, List.set_cons_succ]
  refine wpAnyG_takeL (i := 4) (v := ?v5) (fuel := 7) (listed' := #[true, true, true, true, true, false, false, false, false, false, false, false]) rfl (by kernel_rfl) (fun _ _ _ h => h) (.inl ⟨by rfl, ?hy5⟩) (by assumption) (by kernel_rfl) ?rest5
  case hy5 => (intro w' hSw; (try dsimp only at hSw); go_simp; try with_reducible rfl)
  try simp only [Act.put, List.setIfInBounds_toArray, List.set_cons_zero, List.set_cons_succ]
  refine wpAnyG_takeL (i := 5) (v := ?v6) (fuel := 6) (listed' := #[true, true, true, true, true, true, false, false, false, false, false, false]) rfl (by kernel_rfl) (fun _ _ _ h => h) (.inl ⟨by rfl, ?hy6⟩) (by assumption) (by kernel_rfl) ?rest6
  case hy6 => (intro w' hSw; (try dsimp only at hSw); go_simp; try with_reducible rfl)
  try simp only [Act.put, List.setIfInBounds_toArray, List.set_cons_zero, List.set_cons_succ]
  refine wpAnyG_takeL (i := 6) (v := ?v7) (fuel := 5) (listed' := #[true, true, true, true, true, true, true, false, false, false, false, false]) rfl (by kernel_rfl) (fun _ _ _ h => h) (.inl ⟨by rfl, ?hy7⟩) (by assumption) (by kernel_rfl) ?rest7
  case hy7 => (intro w' hSw; (try dsimp only at hSw); go_simp; try with_reducible rfl)
  try simp only [Act.put, List.setIfInBounds_toArray, List.set_cons_zero, List.set_cons_succ]
  refine wpAnyG_takeL (i := 7) (v := ?v8) (fuel := 4) (listed' := #[true, true, true, true, true, true, true, true, false, false, false, false]) rfl (by kernel_rfl) (fun _ _ _ h => h) (.inl ⟨by rfl, ?hy8⟩) (by assumption) (by kernel_rfl) ?rest8
  case hy8 => (intro w' hSw; (try dsimp only at hSw); go_simp; try with_reducible rfl)
  try simp only [Act.put, List.setIfInBounds_toArray, List.set_cons_zero, List.set_cons_succ]
  refine wpAnyG_oneL (i := 8) (fuel := 3) (listed' := #[true, true, true, true, true, true, true, true, true, false, false, false]) rfl (by kernel_rfl) (by kernel_rfl) (by rfl) (fun K hK0 => ?_)
  have hK := Lib.hid hK0
  clear hK0
  go_simp
  refine (HCB.out _ ((Below.refl w0.heap.size w0).drew)).mono ?_
  rintro e w1 ⟨v1, rfl, ho1, hb1⟩
  obtain ⟨kd1, td1, hv1, hk1, hkd1, hm1⟩ := ho1
  rw [H.out.ok.bads] at hv1 hm1
  subst hv1
  have hb1 : Below w0.heap.size w0 w1 := below_then ((Below.refl w0.heap.size w0).drew) (Nat.le_refl _) hb1
  have hp1 := H.out.below hb1
  obtain ⟨c0', c1', c2', c3', _, c5', _, _, _, _⟩ := hp1.cells
  have hS1 : (fun w' : World => w'.cell? ⟨a, 0, none⟩ = some (.int .i64 (c.B : Int)) ∧ w'.cell? ⟨a, 1, none⟩ = some (.int .i64 (c.P : Int)) ∧ w'.cell? ⟨a, 2, none⟩ = some (.int .i64 (c.S : Int)) ∧ w'.cell? ⟨a, 3, none⟩ = some (.int .i64 (c.Sp : Int)) ∧ w'.cell? ⟨a, 5, none⟩ = some (.slice (some ⟨L.kd, 0, none⟩) c.B L.cd)) w1 := ⟨c0', c1', c2', c3', c5'⟩
  dsimp only at hS1
  have hb2 := hb1.alloc hb1.size (.cells (madeCells_ c.B c.P c.S c.Sp (.slice none 0 0) kd1 (c.B + td1.length)) 65)
  have hp2 := H.out.below hb2
  obtain ⟨c0', c1', c2', c3', _, c5', _, _, _, _⟩ := hp2.cells
  have hS2 : (fun w' : World => w'.cell? ⟨a, 0, none⟩ = some (.int .i64 (c.B : Int)) ∧ w'.cell? ⟨a, 1, none⟩ = some (.int .i64 (c.P : Int)) ∧ w'.cell? ⟨a, 2, none⟩ = some (.int .i64 (c.S : Int)) ∧ w'.cell? ⟨a, 3, none⟩ = some (.int .i64 (c.Sp : Int)) ∧ w'.cell? ⟨a, 5, none⟩ = some (.slice (some ⟨L.kd, 0, none⟩) c.B L.cd)) (w1.alloc (.cells (madeCells_ c.B c.P c.S c.Sp (.slice none 0 0) kd1 (c.B + td1.length)) 65)) := ⟨c0', c1', c2', c3', c5'⟩
  dsimp only at hS2
  have hbk2 := Blk.new w1 65 (madeCells_ c.B c.P c.S c.Sp (.slice none 0 0) kd1 (c.B + td1.length))
  have hw2 := alloc_sz w1 (.cells (madeCells_ c.B c.P c.S c.Sp (.slice none 0 0) kd1 (c.B + td1.length)) 65)
  have H1 := Lib.hid (And.intro hb2 (And.intro (show w0.heap.size ≤ kd1 from hk1) (And.intro (hkd1.alloc (.cells (madeCells_ c.B c.P c.S c.Sp (.slice none 0 0) kd1 (c.B + td1.length)) 65)) (And.intro hkd1.lt (And.intro hbk2 (And.intro hw2 (And.intro hb1.size hS2)))))))
  clear c0' c1' c2' c3' c5' hp1 hp2 hb1 hb2 hk1 hkd1 hbk2 hw2 hS2
  refine hK.out _ _ (.inl hS1) ?_
  clear hK K
  refine wpAnyG_takeL (i := 9) (v := ?v9) (fuel := 2) (listed' := #[true, true, true, true, true, true, true, true, true, true, false, false]) rfl (by kernel_rfl) (fun _ _ _ h => h) (.inl ⟨by rfl, ?hy9⟩) (by assumption) (by kernel_rfl) ?rest9
  case hy9 => (intro w' hSw; (try dsimp only at hSw); go_simp; try with_reducible rfl)
  try simp only [Act.put, List.setIfInBounds_toArray, List.set_cons_zero, List.set_cons_succ]
  refine wpAnyG_oneL (i := 10) (fuel := 1) (listed' := #[true, true, true, true, true, true, true, true, true, true, true, false]) rfl (by kernel_rfl) (by kernel_rfl) (by rfl) (fun K hK0 => ?_)
  have hK := Lib.hid hK0
  clear hK0
  go_simp
  unfold madeCells_ at H1
  refine hK.out _ _ (.inl H1.out.2.2.2.2.2.2.2) ?_
  clear hK K
  refine wpAnyG_oneL (i := 11) (fuel := 0) (listed' := #[true, true, true, true, true, true, true, true, true, true, true, true]) rfl (by kernel_rfl) (by kernel_rfl) (by rfl) (fun K hK0 => ?_)
  have hK := Lib.hid hK0
  clear hK0
  go_simp
  refine hK.out _ _ (.inr (by decide)) ?_
  clear hK K
  refine wpAnyG_done (by kernel_rfl) ?_ _
  clear hS0 hS1
  generalize hw2 : w1.alloc (.cells #[.int .i64 (c.B : Int), .int .i64 (c.P : Int), .int .i64 (c.S : Int), .int .i64 (c.Sp : Int), .slice none 0 0, .slice (some ⟨kd1, 0, none⟩) c.B (c.B + td1.length), .slice none 0 0, .int .i64 0, .bool false, .int .i64 0] 65) = w2 at *
  have hp2 := H.out.below H1.out.1
  obtain ⟨_, _, _, _, d4, _, _, _, _, _⟩ := hp2.cells
  have hg2 : w1.heap.size < w2.heap.size := by have := H1.out.2.2.2.2.2.1; omega
  have HW2 := Lib.hid (And.intro hp2 hw2)
  clear hw2 hp2 c0 c1 c2 c3 c4 c5
  obtain ⟨B, hBB⟩ : ∃ B, c.B = B := ⟨_, rfl⟩
  rw [hBB] at hB1 hB2 d4 ⊢
  have HBB := Lib.hid hBB
  clear hBB
  go_wp2_with fail
  go_loopg [25] B (fun k i wr => ∃ (j : Nat) (v : Value) (ps : List (List UInt8 × Value)), j + k = B ∧ i = .int .i64 j ∧ Blk wr w1.heap.size 65 (madeCells_ c.B c.P c.S c.Sp v kd1 (c.B + td1.length)) ∧ OwnBk wr w2.heap.size v j ps ∧ (ps.map (·.1) = (List.range j).map c.row) ∧ (Apt ps ∧ ∀ p ∈ ps, p.1 ≠ []) ∧ w2.grownBy wr (some w1.heap.size))
  case atStart => exact ⟨0, _, [], by omega, rfl, H1.out.2.2.2.2.1, OwnZ.nil _ _, rfl, ⟨Apt.nil, fun _ h => by cases h⟩, World.grownBy.refl _ _⟩
  case round =>
    obtain ⟨j, v, ps, hj, rfl, hbk, hown, hps, hap, hg⟩ := hrel
    have HX := Lib.hid (And.intro hj (And.intro hbk (And.intro hown (And.intro hap (And.intro hps hg)))))
    have hwsz := hg.size
    clear hj hbk hown hps hap hg
    by_cases hlt : j < B
    · have hjI : (j : Int) < (B : Int) := by omega
      have hjB : j < c.B := by rw [HBB.out]; exact hlt
      have hbw : Below w0.heap.size w0 wr := H1.out.1.grown HX.out.2.2.2.2.2 H1.out.1.size (fun k e => by injection e with e; have := H1.out.2.2.2.2.2.2.1; omega)
      have hpr := H.out.below hbw
      have y0 := hpr.kb j hjB
      have HCL := Lib.hid (fun w' (hb : Below wr.heap.size wr w') => clone_ok w' ⟨L.kr j, 0, none⟩ c.N (c.N + (L.tl j).length) (c.row j) (H.out.ok.row_len hjB) ((hpr.rvRow hjB).below hb) (by have := H.out.ok.n; omega))
      have k4 := HX.out.2.1.cell 4
      simp [madeCells_] at k4
      have hn5 : ∀ (w3 : World) (A3 : Option Addr) (cc3 : Nat) (v5 : Value) (w5 : World), Below wr.heap.size wr w3 → (∀ p ∈ ps, p.2.ownBlock ≠ (Value.slice A3 c.N cc3).ownBlock) → OwnBk w5 w2.heap.size v5 (j + 1) (ps ++ [(c.row j, .slice A3 c.N cc3)]) → w3.grownBy w5 v.ownBlock →
          w5.cell? ⟨w1.heap.size, 4, none⟩ = some v ∧ w5.frozen? ⟨w1.heap.size, 4, none⟩ = false ∧ Hid (Blk (w5.setCell ⟨w1.heap.size, 4, none⟩ v5) w1.heap.size 65 (madeCells_ c.B c.P c.S c.Sp v5 kd1 (c.B + td1.length)) ∧ OwnBk (w5.setCell ⟨w1.heap.size, 4, none⟩ v5) w2.heap.size v5 (j + 1) (ps ++ [(c.row j, .slice A3 c.N cc3)]) ∧ ((ps ++ [(c.row j, Value.slice A3 c.N cc3)]).map (·.1) = (List.range (j + 1)).map c.row) ∧ (Apt (ps ++ [(c.row j, .slice A3 c.N cc3)]) ∧ ∀ p ∈ ps ++ [(c.row j, Value.slice A3 c.N cc3)], p.1 ≠ []) ∧ w2.grownBy (w5.setCell ⟨w1.heap.size, 4, none⟩ v5) (some w1.heap.size)) := by
        intro w3 A3 cc3 v5 w5 hb3 hfr ho5 hg5
        obtain ⟨e1, e2, e3, e4, e5⟩ := made_step hg2 HX.out.2.1 HX.out.2.2.1 HX.out.2.2.2.2.2 hb3 ho5 hg5
        refine ⟨e1, e2, e3, e4, ?_, ⟨HX.out.2.2.2.1.1.snoc hfr, fun p hp => ?_⟩, e5⟩
        · rw [List.map_append, HX.out.2.2.2.2.1, List.range_succ, List.map_append]
          rfl
        · rcases List.mem_append.1 hp with hp | hp
          · exact HX.out.2.2.2.1.2 p hp
          · rw [List.mem_singleton] at hp
            subst hp
            intro h0
            have := H.out.ok.row_len hjB
            have hN := H.out.ok.n
            rw [show c.row j = [] from h0] at this
            simp at this
            omega
      have HN5 := Lib.hid hn5
      have HP := Lib.hid hpr
      have d4' : wr.cell? ⟨a, 4, none⟩ = _ := hpr.cells.2.2.2.2.1
      have hcb := hpr.cb.1
      rw [HBB.out] at hcb
      clear hn5 hpr hbw d4 d4'
      go_wp2_with fail
      refine wp_region_G (fun w' : World => w'.cell? ⟨w1.heap.size, 4, none⟩ = some v) 11 12 #[false, false, false, false, false, false, false, false, false, false, false, false] (by kernel_rfl) rfl (by kernel_rfl) ?_
      have hS0 : (fun w' : World => w'.cell? ⟨w1.heap.size, 4, none⟩ = some v) wr.drew := k4
      dsimp only at hS0
      refine wpAnyG_takeL (i := 0) (v := ?v10) (fuel := 11) (listed' := #[true, false, false, false, false, false, false, false, false, false, false, false]) rfl (by kernel_rfl) (fun _ _ _ h => h) (.inl ⟨by rfl, ?hy10⟩) (by assumption) (by kernel_rfl) ?rest10
      case hy10 => (intro w' hSw; (try dsimp only at hSw); go_simp; try with_reducible rfl)
      try simp only [Act.put, List.setIfInBounds_toArray, List.set_cons_zero, List.set_cons_succ]
      refine wpAnyG_takeL (i := 1) (v := ?v11) (fuel := 10) (listed' := #[true, true, false, false, false, false, false, false, false, false, false, false]) rfl (by kernel_rfl) (fun _ _ _ h => h) (.inl ⟨by rfl, ?hy11⟩) (by assumption) (by kernel_rfl) ?rest11
      case hy11 => (intro w' hSw; (try dsimp only at hSw); go_simp; try with_reducible rfl)
      try simp only [Act.put, List.setIfInBounds_toArray, List.set_cons_zero, List.set_cons_succ]
      refine wpAnyG_takeL (i := 2) (v := ?v12) (fuel := 9) (listed' := #[true, true, true, false, false, false, false, false, false, false, false, false]) rfl (by kernel_rfl) (fun _ _ _ h => h) (.inl ⟨by rfl, ?hy12⟩) (by assumption) (by kernel_rfl) ?rest12
      case hy12 => (intro w' hSw; (try dsimp only at hSw); go_simp; try with_reducible rfl)
      try simp only [Act.put, List.setIfInBounds_toArray, List.set_cons_zero, List.set_cons_succ]
      refine wpAnyG_takeL (i := 3) (v := ?v13) (fuel := 8) (listed' := #[true, true, true, true, false, false, false, false, false, false, false, false]) rfl (by kernel_rfl) (fun _ _ _ h => h) (.inl ⟨by rfl, ?hy13⟩) (by assumption) (by kernel_rfl) ?rest13
      case hy13 => (intro w' hSw; (try dsimp only at hSw); go_simp; try with_reducible rfl)
      try simp only [Act.put, List.setIfInBounds_toArray, List.set_cons_zero, List.set_cons_succ]
      refine wpAnyG_takeL (i := 4) (v := ?v14) (fuel := 7) (listed' := #[true, true, true, true, true, false, false, false, false, false, false, false]) rfl (by kernel_rfl) (fun _ _ _ h => h) (.inl ⟨by rfl, ?hy14⟩) (by assumption) (by kernel_rfl) ?rest14
      case hy14 => (intro w' hSw; (try dsimp only at hSw); go_simp; try with_reducible rfl)
      try simp only [Act.put, List.setIfInBounds_toArray, List.set_cons_zero, List.set_cons_succ]
      refine wpAnyG_takeL (i := 5) (v := ?v15) (fuel := 6) (listed' := #[true, true, true, true, true, true, false, false, false, false, false, false]) rfl (by kernel_rfl) (fun _ _ _ h => h) (.inl ⟨by rfl, ?hy15⟩) (by assumption) (by kernel_rfl) ?rest15
      case hy15 => (intro w' hSw; (try dsimp only at hSw); go_simp; try with_reducible rfl)
      try simp only [Act.put, List.setIfInBounds_toArray, List.set_cons_zero, List.set_cons_succ]
      refine wpAnyG_oneL (i := 6) (fuel := 5) (listed' := #[true, true, true, true, true, true, true, false, false, false, false, false]) rfl (by kernel_rfl) (by kernel_rfl) (by rfl) (fun K hK0 => ?_)
      have hK := Lib.hid hK0
      clear hK0
      go_simp
      refine (HCL.out _ ((Below.refl wr.heap.size wr).drew)).mono ?_
      rintro e w3 ⟨v3, rfl, ho3, hb3⟩
      have hb3 : Below wr.heap.size wr w3 := below_then ((Below.refl wr.heap.size wr).drew) (Nat.le_refl _) hb3
      have hbk3 := HX.out.2.1.below hb3 HX.out.2.1.lt
      have hS1 : (fun w' : World => w'.cell? ⟨w1.heap.size, 4, none⟩ = some v) w3 := hbk3.cell 4
      dsimp only at hS1
      have hown3 := HX.out.2.2.1.below hb3
      have hof3 : OffR w3 w2.heap.size v.ownBlock v3 (c.row j) := offR_new (w := wr) ho3 HX.out.2.2.2.2.2.size (fun k hk => (HX.out.2.2.1.blk hk).2)
      have hfr3 := HX.out.2.2.1.fresh_blk HX.out.2.2.2.1.2 (w' := w3) ho3
      obtain ⟨A3, cc3, hv3, _, _, _, _⟩ := ho3.slice
      rw [H.out.ok.row_len (by omega)] at hv3
      subst hv3
      have hS2 : ∀ (cs : Array Value) (t : TypeId), (fun w' : World => w'.cell? ⟨w1.heap.size, 4, none⟩ = some v) (w3.alloc (.cells cs t)) := fun cs t => Lib.cell?_alloc_some _ hS1
      dsimp only at hS2
      have H3 := Lib.hid (And.intro hb3 (And.intro hbk3 (And.intro hown3 (And.intro hof3 (And.intro hfr3 hS2)))))
      have hs3 := hb3.size
      clear hb3 hbk3 hown3 hof3 hfr3 hS2 ho3
      refine hK.out _ _ (.inl hS1) ?_
      clear hK K
      refine wpAnyG_oneL (i := 7) (fuel := 4) (listed' := #[true, true, true, true, true, true, true, true, false, false, false, false]) rfl (by kernel_rfl) (by kernel_rfl) (by rfl) (fun K hK0 => ?_)
      have hK := Lib.hid hK0
      clear hK0
      go_simp
      refine hK.out _ _ (.inl (H3.out.2.2.2.2.2 _ _)) ?_
      clear hK K
      refine wpAnyG_oneL (i := 8) (fuel := 3) (listed' := #[true, true, true, true, true, true, true, true, true, false, false, false]) rfl (by kernel_rfl) (by kernel_rfl) (by rfl) (fun K hK0 => ?_)
      have hK := Lib.hid hK0
      clear hK0
      refine wp_appZ (cell := bkCells) (val := id) (sz := 1) (e := 22) w3 (.tmp 33) (.tmp 36) 63 rfl w2.heap.size ii iz 24 Try.underlying63 hii hiz hi1 hi2 hi3 (by decide) bk_len bk_one v j ps (by rfl) H3.out.2.2.1 (c.row j) (.slice A3 c.N cc3) (by rfl) H3.out.2.2.2.1 _ (by rfl) ?_ ?_ ?_ ?_
      · unfold maxLen; omega
      · omega
      · omega
      intro v5 w5 ho5 hg5
      obtain ⟨hS5, f5, HE5⟩ := HN5.out w3 A3 cc3 v5 w5 H3.out.1 H3.out.2.2.2.2.1 ho5 hg5
      obtain ⟨A5, cc5, hv5, _, _, _, _⟩ := ho5.slice
      subst hv5
      clear ho5 hg5
      refine hK.out _ _ (.inl hS5) ?_
      clear hK K
      try simp only [Act.put, List.setIfInBounds_toArray, List.set_cons_zero, List.set_cons_succ]
      refine wpAnyG_takeL (i := 9) (v := ?v16) (fuel := 2) (listed' := #[true, true, true, true, true, true, true, true, true, true, false, false]) rfl (by kernel_rfl) (fun _ _ _ h => h) (.inl ⟨by rfl, ?hy16⟩) (by assumption) (by kernel_rfl) ?rest16
      case hy16 => (intro w' hSw; (try dsimp only at hSw); go_simp; try with_reducible rfl)
      try simp only [Act.put, List.setIfInBounds_toArray, List.set_cons_zero, List.set_cons_succ]
      refine wpAnyG_takeL (i := 10) (v := ?v17) (fuel := 1) (listed' := #[true, true, true, true, true, true, true, true, true, true, true, false]) rfl (by kernel_rfl) (fun _ _ _ h => h) (.inl ⟨by rfl, ?hy17⟩) (by assumption) (by kernel_rfl) ?rest17
      case hy17 => (intro w' hSw; (try dsimp only at hSw); go_simp; try with_reducible rfl)
      try simp only [Act.put, List.setIfInBounds_toArray, List.set_cons_zero, List.set_cons_succ]
      refine wpAnyG_oneL (i := 11) (fuel := 0) (listed' := #[true, true, true, true, true, true, true, true, true, true, true, true]) rfl (by kernel_rfl) (by kernel_rfl) (by rfl) (fun K hK0 => ?_)
      have hK := Lib.hid hK0
      clear hK0
      go_simp
      refine hK.out _ _ (.inr (by decide)) ?_
      clear hK K
      refine wpAnyG_done (by kernel_rfl) ?_ _
      go_wp2_with fail
      go_roundg (B - (j + 1))
      case measure => have := HX.out.1; omega
      case rel =>
        obtain ⟨e1, e2, e3, e4, e5⟩ := HE5.out
        exact ⟨j + 1, _, _, by have := HX.out.1; omega, by go_num, e1, e2, e3, e4, e5⟩
    · obtain rfl : j = B := by have := HX.out.1; omega
      have hge : ¬ (j : Int) < (j : Int) := by omega
      have hfin : PC wr (fsh w0 wr) w1.heap.size (powerS c) := by
        have hkd := H1.out.2.2.1.grown HX.out.2.2.2.2.2 (fun e => by injection e with e; have := H1.out.2.2.2.1; omega)
        have hs0 := H1.out.2.2.2.2.2.2.1
        have hown := HX.out.2.2.1
        have hps := HX.out.2.2.2.2.1
        rw [← HBB.out] at hown hps
        exact PCx.make (c := powerS c) H.out.ok.power ⟨rfl, rfl, rfl, rfl⟩ HX.out.2.1 hown hps HX.out.2.2.2.1.1 hkd ⟨rfl, hm1⟩ ⟨hs0, hg2⟩ ⟨H1.out.2.1, by have := H1.out.2.2.2.1; omega⟩ (by have := H1.out.2.2.2.1; omega)
      have hbw : Below w0.heap.size w0 wr := H1.out.1.grown HX.out.2.2.2.2.2 H1.out.1.size (fun k e => by injection e with e; have := H1.out.2.2.2.2.2.2.1; omega)
      have HF := Lib.hid (And.intro hfin hbw)
      clear hfin hbw
      go_wp2_with fail
      go_ret2
      exact ⟨_, rfl, HF.out.1, HF.out.2⟩
theorem power_off (w : World) (A : Option Addr) (h : Calls Try.prog 41 #[.pointer A] w fun e w' => e = .returned (.bool true) ∧ w' = w) :
    Calls Try.prog 18 #[.pointer A] w fun e w' => e = .returned (.tuple #[.pointer none, .int .i64 1]) ∧ w' = w := by
  have HO := Lib.hid h
  clear h
  go_enter Try.func18, Try.ntmps18
  go_wp2_with fail
  refine HO.out.mono ?_
  rintro e w1 ⟨rfl, rfl⟩
  go_wp2_with fail
  go_ret2
  exact ⟨rfl, rfl⟩
end Go.Proofs.Ytlcdabmclcfagaa
