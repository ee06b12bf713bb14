import Derived.Test.YtlcdabmclcfagaaPrAM
import Derived.Test.YtlcdabmclcfagaaSameKM
set_option linter.unusedVariables false
set_option linter.unusedSimpArgs false
/- What is done to both: Program. -/
namespace Go.Proofs.Ytlcdabmclcfagaa
open Go.RowKit

/-- An act's words behind what touches others. -/
theorem act_cells {w : World} {base pb a r : Nat} {F F' : Nat → Prop} {c : Chp} (h : PairX w base pb a r F F' c) (cs : Array Value) :
    ∀ w', Tch (fun k => F k ∨ F' k) (w.alloc (.cells cs 49)) w' → (∀ k, w'.cell? ⟨w.heap.size, k, none⟩ = cs[k]?) ∧ w'.cell? ⟨pb, 0, none⟩ = some (.pointer (some ⟨a, 0, none⟩)) ∧ w'.cell? ⟨pb, 1, none⟩ = some (.pointer (some ⟨r, 0, none⟩)) := by
  intro w' ht
  have hB := Blk.new w 49 cs
  have hb := (Below.refl w.heap.size w).alloc (Nat.le_refl _) (.cells cs 49)
  have h1 := h.below hb
  have e1 := hB.heap (ht.block _ hB.lt (fun hf => by
    rcases hf with hf | hf
    · exact Nat.lt_irrefl _ (h.pc.lt _ hf)
    · exact Nat.lt_irrefl _ (h.rc.lt _ hf)))
  have e2 := h1.p.heap (ht.block _ h1.p.lt (fun hf => hf.elim h.pf h.pr))
  exact ⟨fun k => e1.cell k, e2.cell 0, e2.cell 1⟩
set_option maxRecDepth 100000 in
set_option maxHeartbeats 4000000 in
theorem pact1 {w : World} {base pb a r : Nat} {F F' : Nat → Prop} {c : Chp} (h : PairX w base pb a r F F' c) (x : Ac) (hd : x.do_ = 1) (Ab : Option Addr) (db : Nat) (Ah : Option Addr) (dh : Nat) (hv : ActIn w base x Ab Ah) :
    Calls Try.prog 49 #[.pointer (some ⟨pb, 0, none⟩), .agg (actCells x Ab db Ah dh)] w (PactEnd w base pb (actS c x)) := by
  have hS2 := h.rc.ok.s2
  have hac : actS c x = (programS c x.block x.page (bytesS x c.S)).1 := if_pos hd
  rw [hac]
  have HAB := Lib.hid (show ∀ w', Below w.heap.size w w' → Calls Try.prog 23 #[.agg #[.int .i64 1, .int .i64 x.block, .int .i64 x.page, .int .u8 (x.fill.toNat : Int), .slice Ab x.bytes.length db, .slice Ah x.hits.length dh], .int .i64 (c.S : Int)] w' (ActBEnd w' base (bytesS x c.S)) from fun w' hb => by
    have h1 := act_bytes w' base x Ab db Ah dh c.S hS2 (hv.below hb).rb (hv.below hb).lb (hv.below hb).mb
    unfold actCells at h1
    rwa [hd] at h1)
  obtain ⟨ws, hws⟩ : ∃ ws, bytesS x c.S = ws := ⟨_, rfl⟩
  rw [hws] at HAB ⊢
  obtain ⟨R, hR⟩ : ∃ R, programS c x.block x.page ws = R := ⟨_, rfl⟩
  rw [hR]
  obtain ⟨Lr, hLr⟩ := h.rc
  unfold actCells
  rw [hd]
  generalize x.bytes.length = nb at *
  generalize x.hits.length = nh at *
  generalize (x.fill.toNat : Int) = fl at *
  have hcl := act_cells h #[.int .i64 1, .int .i64 x.block, .int .i64 x.page, .int .u8 fl, .slice Ab nb db, .slice Ah nh dh]
  have hb1 := (Below.refl w.heap.size w).alloc (Nat.le_refl _) (.cells #[.int .i64 1, .int .i64 x.block, .int .i64 x.page, .int .u8 fl, .slice Ab nb db, .slice Ah nh dh] 49)
  have hrS : ∀ w', Below w.heap.size w w' → w'.cell? ⟨r, 2, none⟩ = some (.int .i64 (c.S : Int)) := fun w' hb => (hLr.below hb).cells.2.2.1
  have H := Lib.hid (And.intro h hR)
  generalize x.block = bk at *
  generalize x.page = pg at *
  generalize c.S = S at *
  obtain ⟨w1, hw1⟩ : ∃ w1, w1 = w.alloc (.cells #[.int .i64 1, .int .i64 bk, .int .i64 pg, .int .u8 fl, .slice Ab nb db, .slice Ah nh dh] 49) := ⟨_, rfl⟩
  rw [← hw1] at hcl hb1
  have HC3 := Lib.hid (show ∀ w', Below w1.heap.size w1 w' → (fun w' : World => w'.cell? ⟨w.heap.size, 0, none⟩ = some (.int .i64 1) ∧ w'.cell? ⟨w.heap.size, 1, none⟩ = some (.int .i64 bk) ∧ w'.cell? ⟨w.heap.size, 2, none⟩ = some (.int .i64 pg) ∧ w'.cell? ⟨w.heap.size, 3, none⟩ = some (.int .u8 fl) ∧ w'.cell? ⟨w.heap.size, 4, none⟩ = some (.slice Ab nb db) ∧ w'.cell? ⟨w.heap.size, 5, none⟩ = some (.slice Ah nh dh) ∧ w'.cell? ⟨pb, 1, none⟩ = some (.pointer (some ⟨r, 0, none⟩)) ∧ w'.cell? ⟨r, 2, none⟩ = some (.int .i64 (S : Int))) w' from fun w' hb => by
    obtain ⟨e1, e2, e3⟩ := hcl w' (Tch.of_below hb)
    exact ⟨e1 0, e1 1, e1 2, e1 3, e1 4, e1 5, e3, hrS w' (below_then hb1 hb1.size hb)⟩)
  have HC4 := Lib.hid (show ∀ w', Tch (fun k => F k ∨ F' k) w1 w' → (fun w' : World => w'.cell? ⟨w.heap.size, 1, none⟩ = some (.int .i64 bk) ∧ w'.cell? ⟨w.heap.size, 2, none⟩ = some (.int .i64 pg) ∧ w'.cell? ⟨pb, 0, none⟩ = some (.pointer (some ⟨a, 0, none⟩)) ∧ w'.cell? ⟨pb, 1, none⟩ = some (.pointer (some ⟨r, 0, none⟩))) w' from fun w' ht => by
    obtain ⟨e1, e2, e3⟩ := hcl w' ht
    exact ⟨e1 1, e1 2, e2, e3⟩)
  have HW1 := Lib.hid hb1
  have k0 : w1.cell? ⟨w.heap.size, 0, none⟩ = some (.int .i64 1) := (HC3.out w1 (Below.refl _ _)).1
  clear hcl hb1 hrS h hR hLr hac hws hv hd
  go_enter Try.func49, Try.ntmps49
  go_wp2_with fail
  rw [← hw1]
  clear hw1
  go_wp2_with fail
  refine wp_region_G (fun w' : World => w'.cell? ⟨w.heap.size, 0, none⟩ = some (.int .i64 1) ∧ w'.cell? ⟨w.heap.size, 1, none⟩ = some (.int .i64 bk) ∧ w'.cell? ⟨w.heap.size, 2, none⟩ = some (.int .i64 pg) ∧ w'.cell? ⟨w.heap.size, 3, none⟩ = some (.int .u8 fl) ∧ w'.cell? ⟨w.heap.size, 4, none⟩ = some (.slice Ab nb db) ∧ w'.cell? ⟨w.heap.size, 5, none⟩ = some (.slice Ah nh dh) ∧ w'.cell? ⟨pb, 1, none⟩ = some (.pointer (some ⟨r, 0, none⟩)) ∧ w'.cell? ⟨r, 2, none⟩ = some (.int .i64 (S : Int))) 10 11 #[false, false, false, false, false, false, false, false, false, false, false] (by kernel_rfl) rfl (by kernel_rfl) ?_
  have hS0 : (fun w' : World => w'.cell? ⟨w.heap.size, 0, none⟩ = some (.int .i64 1) ∧ w'.cell? ⟨w.heap.size, 1, none⟩ = some (.int .i64 bk) ∧ w'.cell? ⟨w.heap.size, 2, none⟩ = some (.int .i64 pg) ∧ w'.cell? ⟨w.heap.size, 3, none⟩ = some (.int .u8 fl) ∧ w'.cell? ⟨w.heap.size, 4, none⟩ = some (.slice Ab nb db) ∧ w'.cell? ⟨w.heap.size, 5, none⟩ = some (.slice Ah nh dh) ∧ w'.cell? ⟨pb, 1, none⟩ = some (.pointer (some ⟨r, 0, none⟩)) ∧ w'.cell? ⟨r, 2, none⟩ = some (.int .i64 (S : Int))) w1.drew := HC3.out _ (Below.refl _ _).drew
  dsimp only at hS0
  have hbd := (Below.refl w1.heap.size w1).drew
  generalize w1.drew = wd at *
  have HD := Lib.hid hbd
  clear hbd
  refine wpAnyG_takeL (i := 0) (v := ?v1) (fuel := 10) (listed' := #[true, false, false, false, false, false, false, false, false, false, false]) rfl (by kernel_rfl) (fun _ _ _ h => h) (.inl ⟨by rfl, ?hy1⟩) (by assumption) (by kernel_rfl) ?rest1
  case hy1 => (intro w' hSw; (try dsimp only at hSw); go_simp; try with_reducible rfl)
  try simp only [Act.put, List.setIfInBounds_toArray, List.set_cons_zero, List.set_cons_succ]
  refine wpAnyG_takeL (i := 1) (v := ?v2) (fuel := 9) (listed' := #[true, true, false, false, false, false, false, false, false, false, false]) rfl (by kernel_rfl) (fun _ _ _ h => h) (.inl ⟨by rfl, ?hy2⟩) (by assumption) (by kernel_rfl) ?rest2
  case hy2 => (intro w' hSw; (try dsimp only at hSw); go_simp; try with_reducible rfl)
  try simp only [Act.put, List.setIfInBounds_toArray, List.set_cons_zero, List.set_cons_succ]
  refine wpAnyG_takeL (i := 2) (v := ?v3) (fuel := 8) (listed' := #[true, true, true, false, false, false, false, false, false, false, false]) rfl (by kernel_rfl) (fun _ _ _ h => h) (.inl ⟨by rfl, ?hy3⟩) (by assumption) (by kernel_rfl) ?rest3
  case hy3 => (intro w' hSw; (try dsimp only at hSw); go_simp; try with_reducible rfl)
  try simp only [Act.put, List.setIfInBounds_toArray, List.set_cons_zero, List.set_cons_succ]
  refine wpAnyG_takeL (i := 3) (v := ?v4) (fuel := 7) (listed' := #[true, true, true, true, false, false, false, false, false, false, false]) rfl (by kernel_rfl) (fun _ _ _ h => h) (.inl ⟨by rfl, ?hy4⟩) (by assumption) (by kernel_rfl) ?rest4
  case hy4 => (intro w' hSw; (try dsimp only at hSw); go_simp; try with_reducible rfl)
  try simp only [Act.put, List.setIfInBounds_toArray, List.set_cons_zero, List.set_cons_succ]
  refine wpAnyG_takeL (i := 4) (v := ?v5) (fuel := 6) (listed' := #[true, true, true, true, true, false, false, false, false, false, false]) rfl (by kernel_rfl) (fun _ _ _ h => h) (.inl ⟨by rfl, ?hy5⟩) (by assumption) (by kernel_rfl) ?rest5
  case hy5 => (intro w' hSw; (try dsimp only at hSw); go_simp; try with_reducible rfl)
  try simp only [Act.put, List.setIfInBounds_toArray, List.set_cons_zero, List.set_cons_succ]
  refine wpAnyG_takeL (i := 5) (v := ?v6) (fuel := 5) (listed' := #[true, true, true, true, true, true, false, false, false, false, false]) rfl (by kernel_rfl) (fun _ _ _ h => h) (.inl ⟨by rfl, ?hy6⟩) (by assumption) (by kernel_rfl) ?rest6
  case hy6 => (intro w' hSw; (try dsimp only at hSw); go_simp; try with_reducible rfl)
  try simp only [Act.put, List.setIfInBounds_toArray, List.set_cons_zero, List.set_cons_succ]
  refine wpAnyG_takeL (i := 6) (v := ?v7) (fuel := 4) (listed' := #[true, true, true, true, true, true, true, false, false, false, false]) rfl (by kernel_rfl) (fun _ _ _ h => h) (.inl ⟨by rfl, ?hy7⟩) (by assumption) (by kernel_rfl) ?rest7
  case hy7 => (intro w' hSw; (try dsimp only at hSw); go_simp; try with_reducible rfl)
  try simp only [Act.put, List.setIfInBounds_toArray, List.set_cons_zero, List.set_cons_succ]
  refine wpAnyG_takeL (i := 7) (v := ?v8) (fuel := 3) (listed' := #[true, true, true, true, true, true, true, true, false, false, false]) rfl (by kernel_rfl) (fun _ _ _ h => h) (.inl ⟨by rfl, ?hy8⟩) (by assumption) (by kernel_rfl) ?rest8
  case hy8 => (intro w' hSw; (try dsimp only at hSw); go_simp; try with_reducible rfl)
  try simp only [Act.put, List.setIfInBounds_toArray, List.set_cons_zero, List.set_cons_succ]
  refine wpAnyG_takeL (i := 8) (v := ?v9) (fuel := 2) (listed' := #[true, true, true, true, true, true, true, true, true, false, false]) rfl (by kernel_rfl) (fun _ _ _ h => h) (.inl ⟨by rfl, ?hy9⟩) (by assumption) (by kernel_rfl) ?rest9
  case hy9 => (intro w' hSw; (try dsimp only at hSw); go_simp; try with_reducible rfl)
  try simp only [Act.put, List.setIfInBounds_toArray, List.set_cons_zero, List.set_cons_succ]
  refine wpAnyG_oneL (i := 9) (fuel := 1) (listed' := #[true, true, true, true, true, true, true, true, true, true, false]) rfl (by kernel_rfl) (by kernel_rfl) (by rfl) (fun K hK0 => ?_)
  have hK := Lib.hid hK0
  clear hK0
  go_simp
  refine (HAB.out _ (below_then HW1.out HW1.out.size HD.out)).mono ?_
  rintro e w2 ⟨A, d, rfl, hrv, hab, hb2⟩
  have hb12 := below_then HD.out HD.out.size hb2
  have H2 := Lib.hid (And.intro hrv (And.intro hab hb12))
  clear hrv hab hb2 hb12
  refine hK.out _ _ (.inl (HC3.out _ H2.out.2.2)) ?_
  clear hK K
  try simp only [Act.put, List.setIfInBounds_toArray, List.set_cons_zero, List.set_cons_succ]
  refine wpAnyG_oneL (i := 10) (fuel := 0) (listed' := #[true, true, true, true, true, true, true, true, true, true, true]) rfl (by kernel_rfl) (by kernel_rfl) (by rfl) (fun K hK0 => ?_)
  have hK := Lib.hid hK0
  clear hK0
  go_simp
  refine hK.out _ _ (.inr (by decide)) ?_
  clear hK K
  refine wpAnyG_done (by kernel_rfl) ?_ _
  clear hS0 k0
  go_wp2_with fail
  refine wp_region_G (fun w' : World => w'.cell? ⟨w.heap.size, 1, none⟩ = some (.int .i64 bk) ∧ w'.cell? ⟨w.heap.size, 2, none⟩ = some (.int .i64 pg) ∧ w'.cell? ⟨pb, 0, none⟩ = some (.pointer (some ⟨a, 0, none⟩)) ∧ w'.cell? ⟨pb, 1, none⟩ = some (.pointer (some ⟨r, 0, none⟩))) 21 22 #[false, false, false, false, false, false, false, false, false, false, false, false, false, false, false, false, false, false, false, false, false, false] (by kernel_rfl) rfl (by kernel_rfl) ?_
  have hbd := (Below.refl w2.heap.size w2).drew
  generalize w2.drew = w3 at *
  have hb13 := below_then H2.out.2.2 H2.out.2.2.size hbd
  have hb03 := below_then HW1.out HW1.out.size hb13
  have H3 := Lib.hid (And.intro (H2.out.1.below hbd) (And.intro hb13 (And.intro hb03 (H.out.1.below hb03))))
  have hS0 : (fun w' : World => w'.cell? ⟨w.heap.size, 1, none⟩ = some (.int .i64 bk) ∧ w'.cell? ⟨w.heap.size, 2, none⟩ = some (.int .i64 pg) ∧ w'.cell? ⟨pb, 0, none⟩ = some (.pointer (some ⟨a, 0, none⟩)) ∧ w'.cell? ⟨pb, 1, none⟩ = some (.pointer (some ⟨r, 0, none⟩))) w3 := HC4.out w3 (Tch.of_below hb13)
  dsimp only at hS0
  clear hbd hb13 hb03
  refine wpAnyG_takeL (i := 0) (v := ?v10) (fuel := 21) (listed' := #[true, false, false, false, false, false, false, false, false, false, false, false, false, false, false, false, false, false, false, false, false, false]) rfl (by kernel_rfl) (fun _ _ _ h => h) (.inl ⟨by rfl, ?hy10⟩) (by assumption) (by kernel_rfl) ?rest10
  case hy10 => (intro w' hSw; (try dsimp only at hSw); go_simp; try with_reducible rfl)
  try simp only [Act.put, List.setIfInBounds_toArray, List.set_cons_zero, List.set_cons_succ]
  refine wpAnyG_takeL (i := 1) (v := ?v11) (fuel := 20) (listed' := #[true, true, false, false, false, false, false, false, false, false, false, false, false, false, false, false, false, false, false, false, false, false]) rfl (by kernel_rfl) (fun _ _ _ h => h) (.inl ⟨by rfl, ?hy11⟩) (by assumption) (by kernel_rfl) ?rest11
  case hy11 => (intro w' hSw; (try dsimp only at hSw); go_simp; try with_reducible rfl)
  try simp only [Act.put, List.setIfInBounds_toArray, List.set_cons_zero, List.set_cons_succ]
  refine wpAnyG_takeL (i := 2) (v := ?v12) (fuel := 19) (listed' := #[true, true, true, false, false, false, false, false, false, false, false, false, false, false, false, false, false, false, false, false, false, false]) rfl (by kernel_rfl) (fun _ _ _ h => h) (.inl ⟨by rfl, ?hy12⟩) (by assumption) (by kernel_rfl) ?rest12
  case hy12 => (intro w' hSw; (try dsimp only at hSw); go_simp; try with_reducible rfl)
  try simp only [Act.put, List.setIfInBounds_toArray, List.set_cons_zero, List.set_cons_succ]
  refine wpAnyG_takeL (i := 3) (v := ?v13) (fuel := 18) (listed' := #[true, true, true, true, false, false, false, false, false, false, false, false, false, false, false, false, false, false, false, false, false, false]) rfl (by kernel_rfl) (fun _ _ _ h => h) (.inl ⟨by rfl, ?hy13⟩) (by assumption) (by kernel_rfl) ?rest13
  case hy13 => (intro w' hSw; (try dsimp only at hSw); go_simp; try with_reducible rfl)
  try simp only [Act.put, List.setIfInBounds_toArray, List.set_cons_zero, List.set_cons_succ]
  refine wpAnyG_takeL (i := 4) (v := ?v14) (fuel := 17) (listed' := #[true, true, true, true, true, false, false, false, false, false, false, false, false, false, false, false, false, false, false, false, false, false]) rfl (by kernel_rfl) (fun _ _ _ h => h) (.inl ⟨by rfl, ?hy14⟩) (by assumption) (by kernel_rfl) ?rest14
  case hy14 => (intro w' hSw; (try dsimp only at hSw); go_simp; try with_reducible rfl)
  try simp only [Act.put, List.setIfInBounds_toArray, List.set_cons_zero, List.set_cons_succ]
  refine wpAnyG_takeL (i := 5) (v := ?v15) (fuel := 16) (listed' := #[true, true, true, true, true, true, false, false, false, false, false, false, false, false, false, false, false, false, false, false, false, false]) rfl (by kernel_rfl) (fun _ _ _ h => h) (.inl ⟨by rfl, ?hy15⟩) (by assumption) (by kernel_rfl) ?rest15
  case hy15 => (intro w' hSw; (try dsimp only at hSw); go_simp; try with_reducible rfl)
  try simp only [Act.put, List.setIfInBounds_toArray, List.set_cons_zero, List.set_cons_succ]
  refine wpAnyG_takeL (i := 6) (v := ?v16) (fuel := 15) (listed' := #[true, true, true, true, true, true, true, false, false, false, false, false, false, false, false, false, false, false, false, false, false, false]) rfl (by kernel_rfl) (fun _ _ _ h => h) (.inl ⟨by rfl, ?hy16⟩) (by assumption) (by kernel_rfl) ?rest16
  case hy16 => (intro w' hSw; (try dsimp only at hSw); go_simp; try with_reducible rfl)
  try simp only [Act.put, List.setIfInBounds_toArray, List.set_cons_zero, List.set_cons_succ]
  refine wpAnyG_takeL (i := 7) (v := ?v17) (fuel := 14) (listed' := #[true, true, true, true, true, true, true, true, false, false, false, false, false, false, false, false, false, false, false, false, false, false]) rfl (by kernel_rfl) (fun _ _ _ h => h) (.inl ⟨by rfl, ?hy17⟩) (by assumption) (by kernel_rfl) ?rest17
  case hy17 => (intro w' hSw; (try dsimp only at hSw); go_simp; try with_reducible rfl)
  try simp only [Act.put, List.setIfInBounds_toArray, List.set_cons_zero, List.set_cons_succ]
  refine wpAnyG_takeL (i := 8) (v := ?v18) (fuel := 13) (listed' := #[true, true, true, true, true, true, true, true, true, false, false, false, false, false, false, false, false, false, false, false, false, false]) rfl (by kernel_rfl) (fun _ _ _ h => h) (.inl ⟨by rfl, ?hy18⟩) (by assumption) (by kernel_rfl) ?rest18
  case hy18 => (intro w' hSw; (try dsimp only at hSw); go_simp; try with_reducible rfl)
  try simp only [Act.put, List.setIfInBounds_toArray, List.set_cons_zero, List.set_cons_succ]
  refine wpAnyG_takeL (i := 10) (v := ?v19) (fuel := 12) (listed' := #[true, true, true, true, true, true, true, true, true, false, true, false, false, false, false, false, false, false, false, false, false, false]) rfl (by kernel_rfl) (fun _ _ _ h => h) (.inl ⟨by rfl, ?hy19⟩) (by assumption) (by kernel_rfl) ?rest19
  case hy19 => (intro w' hSw; (try dsimp only at hSw); go_simp; try with_reducible rfl)
  try simp only [Act.put, List.setIfInBounds_toArray, List.set_cons_zero, List.set_cons_succ]
  refine wpAnyG_takeL (i := 11) (v := ?v20) (fuel := 11) (listed' := #[true, true, true, true, true, true, true, true, true, false, true, true, false, false, false, false, false, false, false, false, false, false]) rfl (by kernel_rfl) (fun _ _ _ h => h) (.inl ⟨by rfl, ?hy20⟩) (by assumption) (by kernel_rfl) ?rest20
  case hy20 => (intro w' hSw; (try dsimp only at hSw); go_simp; try with_reducible rfl)
  try simp only [Act.put, List.setIfInBounds_toArray, List.set_cons_zero, List.set_cons_succ]
  refine wpAnyG_takeL (i := 12) (v := ?v21) (fuel := 10) (listed' := #[true, true, true, true, true, true, true, true, true, false, true, true, true, false, false, false, false, false, false, false, false, false]) rfl (by kernel_rfl) (fun _ _ _ h => h) (.inl ⟨by rfl, ?hy21⟩) (by assumption) (by kernel_rfl) ?rest21
  case hy21 => (intro w' hSw; (try dsimp only at hSw); go_simp; try with_reducible rfl)
  try simp only [Act.put, List.setIfInBounds_toArray, List.set_cons_zero, List.set_cons_succ]
  refine wpAnyG_takeL (i := 13) (v := ?v22) (fuel := 9) (listed' := #[true, true, true, true, true, true, true, true, true, false, true, true, true, true, false, false, false, false, false, false, false, false]) rfl (by kernel_rfl) (fun _ _ _ h => h) (.inl ⟨by rfl, ?hy22⟩) (by assumption) (by kernel_rfl) ?rest22
  case hy22 => (intro w' hSw; (try dsimp only at hSw); go_simp; try with_reducible rfl)
  try simp only [Act.put, List.setIfInBounds_toArray, List.set_cons_zero, List.set_cons_succ]
  refine wpAnyG_takeL (i := 14) (v := ?v23) (fuel := 8) (listed' := #[true, true, true, true, true, true, true, true, true, false, true, true, true, true, true, false, false, false, false, false, false, false]) rfl (by kernel_rfl) (fun _ _ _ h => h) (.inl ⟨by rfl, ?hy23⟩) (by assumption) (by kernel_rfl) ?rest23
  case hy23 => (intro w' hSw; (try dsimp only at hSw); go_simp; try with_reducible rfl)
  try simp only [Act.put, List.setIfInBounds_toArray, List.set_cons_zero, List.set_cons_succ]
  refine wpAnyG_takeL (i := 15) (v := ?v24) (fuel := 7) (listed' := #[true, true, true, true, true, true, true, true, true, false, true, true, true, true, true, true, false, false, false, false, false, false]) rfl (by kernel_rfl) (fun _ _ _ h => h) (.inl ⟨by rfl, ?hy24⟩) (by assumption) (by kernel_rfl) ?rest24
  case hy24 => (intro w' hSw; (try dsimp only at hSw); go_simp; try with_reducible rfl)
  try simp only [Act.put, List.setIfInBounds_toArray, List.set_cons_zero, List.set_cons_succ]
  refine wpAnyG_takeL (i := 16) (v := ?v25) (fuel := 6) (listed' := #[true, true, true, true, true, true, true, true, true, false, true, true, true, true, true, true, true, false, false, false, false, false]) rfl (by kernel_rfl) (fun _ _ _ h => h) (.inl ⟨by rfl, ?hy25⟩) (by assumption) (by kernel_rfl) ?rest25
  case hy25 => (intro w' hSw; (try dsimp only at hSw); go_simp; try with_reducible rfl)
  try simp only [Act.put, List.setIfInBounds_toArray, List.set_cons_zero, List.set_cons_succ]
  refine wpAnyG_takeL (i := 17) (v := ?v26) (fuel := 5) (listed' := #[true, true, true, true, true, true, true, true, true, false, true, true, true, true, true, true, true, true, false, false, false, false]) rfl (by kernel_rfl) (fun _ _ _ h => h) (.inl ⟨by rfl, ?hy26⟩) (by assumption) (by kernel_rfl) ?rest26
  case hy26 => (intro w' hSw; (try dsimp only at hSw); go_simp; try with_reducible rfl)
  try simp only [Act.put, List.setIfInBounds_toArray, List.set_cons_zero, List.set_cons_succ]
  refine wpAnyG_takeL (i := 18) (v := ?v27) (fuel := 4) (listed' := #[true, true, true, true, true, true, true, true, true, false, true, true, true, true, true, true, true, true, true, false, false, false]) rfl (by kernel_rfl) (fun _ _ _ h => h) (.inl ⟨by rfl, ?hy27⟩) (by assumption) (by kernel_rfl) ?rest27
  case hy27 => (intro w' hSw; (try dsimp only at hSw); go_simp; try with_reducible rfl)
  try simp only [Act.put, List.setIfInBounds_toArray, List.set_cons_zero, List.set_cons_succ]
  obtain ⟨La, hLa⟩ := H3.out.2.2.2.pc
  have hoffF : ∀ ad, A = some ad → 0 < ws.length → ¬ F ad.block ∧ ¬ F' ad.block := fun ad hA h0 => by
    rcases H2.out.2.1 ad hA h0 with h1 | h1
    · exact ⟨fun hf => by have := H.out.1.fb _ hf; omega, fun hf => by have := H.out.1.rb _ hf; omega⟩
    · have hs := below_then HW1.out HW1.out.size HD.out
      have hs := hs.size
      exact ⟨fun hf => by have := H.out.1.pc.lt _ hf; omega, fun hf => by have := H.out.1.rc.lt _ hf; omega⟩
  have hpr := program_pc hLa bk pg A ws.length d ws rfl H3.out.1 (fun ad hA h0 => (hoffF ad hA h0).1)
  rw [H.out.2] at hpr
  have HPR := Lib.hid hpr
  have HOF := Lib.hid hoffF
  clear hpr hLa hoffF
  refine wpAnyG_oneL (i := 9) (fuel := 3) (listed' := #[true, true, true, true, true, true, true, true, true, true, true, true, true, true, true, true, true, true, true, false, false, false]) rfl (by kernel_rfl) (by kernel_rfl) (by rfl) (fun K hK0 => ?_)
  have hK := Lib.hid hK0
  clear hK0
  go_simp
  refine HPR.out.mono ?_
  rintro e w5 ⟨rfl, hpc5, ht5⟩
  have H5 := Lib.hid (And.intro hpc5 ht5)
  clear hpc5 ht5
  have hS5 : (fun w' : World => w'.cell? ⟨w.heap.size, 1, none⟩ = some (.int .i64 bk) ∧ w'.cell? ⟨w.heap.size, 2, none⟩ = some (.int .i64 pg) ∧ w'.cell? ⟨pb, 0, none⟩ = some (.pointer (some ⟨a, 0, none⟩)) ∧ w'.cell? ⟨pb, 1, none⟩ = some (.pointer (some ⟨r, 0, none⟩))) w5 := HC4.out w5 ((Tch.of_below H3.out.2.1).then (H5.out.2.mono (fun k h => .inl h)) (fun _ _ h => h))
  refine hK.out _ _ (.inl (hS5)) ?_
  clear hK K
  try simp only [Act.put, List.setIfInBounds_toArray, List.set_cons_zero, List.set_cons_succ]
  clear hS0
  have hS0 := hS5
  dsimp only at hS0
  obtain ⟨Lr5, hLr5⟩ := H3.out.2.2.2.rc.tch H5.out.2 (fun k h1 h2 => H.out.1.dj k h2 h1)
  have hrp := rprogram_any hLr5 (fun y hy => Nat.le_trans (H.out.1.mks y hy) (by decide)) bk pg A ws.length d ws rfl (H3.out.1.tch H5.out.2 (fun ad hA h0 => (HOF.out ad hA (by rwa [bv_length] at h0)).1)) (fun ad hA h0 => (HOF.out ad hA h0).2)
  rw [H.out.2] at hrp
  have HRP := Lib.hid hrp
  clear hrp hLr5 hS5
  refine wpAnyG_oneL (i := 19) (fuel := 2) (listed' := #[true, true, true, true, true, true, true, true, true, true, true, true, true, true, true, true, true, true, true, true, false, false]) rfl (by kernel_rfl) (by kernel_rfl) (by rfl) (fun K hK0 => ?_)
  have hK := Lib.hid hK0
  clear hK0
  go_simp
  refine HRP.out.mono ?_
  rintro e w6 ⟨rfl, hrc6, ht6⟩
  have H6 := Lib.hid (And.intro hrc6 ht6)
  clear hrc6 ht6
  have hS6 : (fun w' : World => w'.cell? ⟨w.heap.size, 1, none⟩ = some (.int .i64 bk) ∧ w'.cell? ⟨w.heap.size, 2, none⟩ = some (.int .i64 pg) ∧ w'.cell? ⟨pb, 0, none⟩ = some (.pointer (some ⟨a, 0, none⟩)) ∧ w'.cell? ⟨pb, 1, none⟩ = some (.pointer (some ⟨r, 0, none⟩))) w6 := HC4.out w6 (((Tch.of_below H3.out.2.1).then (H5.out.2.mono (fun k h => .inl h)) (fun _ _ h => h)).then (H6.out.2.mono (fun k h => .inr h)) (fun _ _ h => h))
  refine hK.out _ _ (.inl (hS6)) ?_
  clear hK K
  try simp only [Act.put, List.setIfInBounds_toArray, List.set_cons_zero, List.set_cons_succ]
  clear hS0
  have hS0 := hS6
  dsimp only at hS0
  generalize R.2 = rn at *
  refine wpAnyG_takeL (i := 20) (v := ?v28) (fuel := 1) (listed' := #[true, true, true, true, true, true, true, true, true, true, true, true, true, true, true, true, true, true, true, true, true, false]) rfl (by kernel_rfl) (fun _ _ _ h => h) (.inl ⟨by rfl, ?hy28⟩) (by assumption) (by kernel_rfl) ?rest28
  case hy28 => (intro w' hSw; (try dsimp only at hSw); go_simp; try with_reducible rfl)
  try simp only [Act.put, List.setIfInBounds_toArray, List.set_cons_zero, List.set_cons_succ]
  refine wpAnyG_oneL (i := 21) (fuel := 0) (listed' := #[true, true, true, true, true, true, true, true, true, true, true, true, true, true, true, true, true, true, true, true, true, true]) rfl (by kernel_rfl) (by kernel_rfl) (by rfl) (fun K hK0 => ?_)
  have hK := Lib.hid hK0
  clear hK0
  go_simp
  refine hK.out _ _ (.inr (by decide)) ?_
  clear hK K
  refine wpAnyG_done (by kernel_rfl) ?_ _
  clear hS6 hS0
  have HE := Lib.hid (H.out.1.deed H3.out.2.2.1 H5.out.1 H5.out.2 H6.out.1 H6.out.2 (by rw [← H.out.2]; exact programS_sub _ _ _ _))
  go_wp2_with fail
  go_ret
  refine ⟨?_, HE.out⟩
  simp
end Go.Proofs.Ytlcdabmclcfagaa

/- What is done to both: Erase, Hits. -/
namespace Go.Proofs.Ytlcdabmclcfagaa
open Go.RowKit

/-- What both do, that take memory. -/
theorem PairX.deed2 {w : World} {base pb a r : Nat} {F F' : Nat → Prop} {c : Chp} {w1 w2 w3 : World} {c' : Chp} (h : PairX w base pb a r F F' c) (hb0 : Below w.heap.size w w1) (hp : PC w2 (grw F w1 w2) a c') (ht : Tch F w1 w2) (hr : RC w3 (grw F' w2 w3) r c') (ht' : Tch F' w2 w3) (hm : ∀ x ∈ c'.hits, x.mask.length ≤ 140737488351232) : PairS w3 base pb c' ∧ Below base w w3 := by
  have hb1 := (h.below hb0)
  have hp2 : Blk w2 pb _ _ := hb1.p.heap (ht.block _ hb1.p.lt h.pf)
  have hp3 := hp2.heap (ht'.block _ hp2.lt h.pr)
  have hpl := hb1.p.lt
  have hfl := hb1.pc.lt
  have hrl := hb1.rc.lt
  have hs := ht.size
  have hbl := hb1.base_le
  have hdf : ∀ k, grw F w1 w2 k → ¬ F' k := fun k hk hf => by
    rcases hk with hk | hk
    · exact h.dj k hk hf
    · have := hrl k hf
      omega
  refine ⟨⟨a, r, grw F w1 w2, grw F' w2 w3, hp.tch ht' hdf, hr, hp3, ?_, ?_, ?_, ?_, ?_, h.p0, hm⟩, ?_⟩
  · rintro k (hk | hk)
    · exact h.fb k hk
    · omega
  · rintro k (hk | hk)
    · exact h.rb k hk
    · omega
  · rintro (hk | hk)
    · exact h.pf hk
    · omega
  · rintro (hk | hk)
    · exact h.pr hk
    · omega
  · rintro k hk (hf | hf)
    · exact hdf k hk hf
    · rcases hk with hk | hk
      · have := hfl k hk
        omega
      · omega
  have e1 : Below base w w1 := ⟨hb0.os, hb0.tape, hb0.output, hb0.size, fun k hk => hb0.block k (Nat.lt_of_lt_of_le hk h.base_le)⟩
  have e2 := ht.below h.fb hb1.base_le
  have e3 := ht'.below h.rb (Nat.le_trans hb1.base_le ht.size)
  exact ⟨e3.os.trans (e2.os.trans e1.os), e3.tape.trans (e2.tape.trans e1.tape), e3.output.trans (e2.output.trans e1.output), Nat.le_trans e1.size (Nat.le_trans e2.size e3.size), fun k hk => (e3.block k hk).trans ((e2.block k hk).trans (e1.block k hk))⟩
set_option maxRecDepth 100000 in
set_option maxHeartbeats 4000000 in
theorem pact2 {w : World} {base pb a r : Nat} {F F' : Nat → Prop} {c : Chp} (h : PairX w base pb a r F F' c) (x : Ac) (hd : x.do_ = 2) (Ab : Option Addr) (db : Nat) (Ah : Option Addr) (dh : Nat) (hv : ActIn w base x Ab Ah) :
    Calls Try.prog 49 #[.pointer (some ⟨pb, 0, none⟩), .agg (actCells x Ab db Ah dh)] w (PactEnd w base pb (actS c x)) := by
  have hac : actS c x = (eraseS c x.block).1 := by
    unfold actS
    rw [if_neg (by omega), if_pos hd]
  rw [hac]
  obtain ⟨R, hR⟩ : ∃ R, eraseS c x.block = R := ⟨_, rfl⟩
  rw [hR]
  unfold actCells
  rw [hd]
  generalize x.bytes.length = nb at *
  generalize hnh : x.hits.length = nh at *
  generalize (x.fill.toNat : Int) = fl at *
  have hcl := act_cells h #[.int .i64 2, .int .i64 x.block, .int .i64 x.page, .int .u8 fl, .slice Ab nb db, .slice Ah nh dh]
  have hb1 := (Below.refl w.heap.size w).alloc (Nat.le_refl _) (.cells #[.int .i64 2, .int .i64 x.block, .int .i64 x.page, .int .u8 fl, .slice Ab nb db, .slice Ah nh dh] 49)
  have H := Lib.hid (And.intro h (And.intro hR (And.intro hv hnh)))
  generalize x.block = bk at *
  generalize x.page = pg at *
  obtain ⟨w1, hw1⟩ : ∃ w1, w1 = w.alloc (.cells #[.int .i64 2, .int .i64 bk, .int .i64 pg, .int .u8 fl, .slice Ab nb db, .slice Ah nh dh] 49) := ⟨_, rfl⟩
  rw [← hw1] at hcl hb1
  have HC4 := Lib.hid (show ∀ w', Tch (fun k => F k ∨ F' k) w1 w' → (fun w' : World => w'.cell? ⟨w.heap.size, 1, none⟩ = some (.int .i64 bk) ∧ w'.cell? ⟨w.heap.size, 2, none⟩ = some (.int .i64 pg) ∧ w'.cell? ⟨w.heap.size, 5, none⟩ = some (.slice Ah nh dh) ∧ w'.cell? ⟨pb, 0, none⟩ = some (.pointer (some ⟨a, 0, none⟩)) ∧ w'.cell? ⟨pb, 1, none⟩ = some (.pointer (some ⟨r, 0, none⟩))) w' from fun w' ht => by
    obtain ⟨e1, e2, e3⟩ := hcl w' ht
    exact ⟨e1 1, e1 2, e1 5, e2, e3⟩)
  have HW1 := Lib.hid hb1
  have k0 : w1.cell? ⟨w.heap.size, 0, none⟩ = some (.int .i64 2) := (hcl w1 (Tch.refl _ _)).1 0
  clear hcl hb1 h hR hac hv hd hnh
  go_enter Try.func49, Try.ntmps49
  go_wp2_with fail
  rw [← hw1]
  clear hw1
  go_wp2_with fail
  refine wp_region_G (fun w' : World => w'.cell? ⟨w.heap.size, 1, none⟩ = some (.int .i64 bk) ∧ w'.cell? ⟨w.heap.size, 2, none⟩ = some (.int .i64 pg) ∧ w'.cell? ⟨w.heap.size, 5, none⟩ = some (.slice Ah nh dh) ∧ w'.cell? ⟨pb, 0, none⟩ = some (.pointer (some ⟨a, 0, none⟩)) ∧ w'.cell? ⟨pb, 1, none⟩ = some (.pointer (some ⟨r, 0, none⟩))) 15 16 #[false, false, false, false, false, false, false, false, false, false, false, false, false, false, false, false] (by kernel_rfl) rfl (by kernel_rfl) ?_
  have hbd := (Below.refl w1.heap.size w1).drew
  generalize w1.drew = w3 at *
  have hb03 := below_then HW1.out HW1.out.size hbd
  have H3 := Lib.hid (And.intro hbd (And.intro hb03 (H.out.1.below hb03)))
  have hS0 : (fun w' : World => w'.cell? ⟨w.heap.size, 1, none⟩ = some (.int .i64 bk) ∧ w'.cell? ⟨w.heap.size, 2, none⟩ = some (.int .i64 pg) ∧ w'.cell? ⟨w.heap.size, 5, none⟩ = some (.slice Ah nh dh) ∧ w'.cell? ⟨pb, 0, none⟩ = some (.pointer (some ⟨a, 0, none⟩)) ∧ w'.cell? ⟨pb, 1, none⟩ = some (.pointer (some ⟨r, 0, none⟩))) w3 := HC4.out w3 (Tch.of_below hbd)
  dsimp only at hS0
  clear hbd hb03 k0
  refine wpAnyG_takeL (i := 0) (v := ?v1) (fuel := 15) (listed' := #[true, false, false, false, false, false, false, false, false, false, false, false, false, false, false, false]) rfl (by kernel_rfl) (fun _ _ _ h => h) (.inl ⟨by rfl, ?hy1⟩) (by assumption) (by kernel_rfl) ?rest1
  case hy1 => (intro w' hSw; (try dsimp only at hSw); go_simp; try with_reducible rfl)
  try simp only [Act.put, List.setIfInBounds_toArray, List.set_cons_zero, List.set_cons_succ]
  refine wpAnyG_takeL (i := 1) (v := ?v2) (fuel := 14) (listed' := #[true, true, false, false, false, false, false, false, false, false, false, false, false, false, false, false]) rfl (by kernel_rfl) (fun _ _ _ h => h) (.inl ⟨by rfl, ?hy2⟩) (by assumption) (by kernel_rfl) ?rest2
  case hy2 => (intro w' hSw; (try dsimp only at hSw); go_simp; try with_reducible rfl)
  try simp only [Act.put, List.setIfInBounds_toArray, List.set_cons_zero, List.set_cons_succ]
  refine wpAnyG_takeL (i := 2) (v := ?v3) (fuel := 13) (listed' := #[true, true, true, false, false, false, false, false, false, false, false, false, false, false, false, false]) rfl (by kernel_rfl) (fun _ _ _ h => h) (.inl ⟨by rfl, ?hy3⟩) (by assumption) (by kernel_rfl) ?rest3
  case hy3 => (intro w' hSw; (try dsimp only at hSw); go_simp; try with_reducible rfl)
  try simp only [Act.put, List.setIfInBounds_toArray, List.set_cons_zero, List.set_cons_succ]
  refine wpAnyG_takeL (i := 3) (v := ?v4) (fuel := 12) (listed' := #[true, true, true, true, false, false, false, false, false, false, false, false, false, false, false, false]) rfl (by kernel_rfl) (fun _ _ _ h => h) (.inl ⟨by rfl, ?hy4⟩) (by assumption) (by kernel_rfl) ?rest4
  case hy4 => (intro w' hSw; (try dsimp only at hSw); go_simp; try with_reducible rfl)
  try simp only [Act.put, List.setIfInBounds_toArray, List.set_cons_zero, List.set_cons_succ]
  refine wpAnyG_takeL (i := 4) (v := ?v5) (fuel := 11) (listed' := #[true, true, true, true, true, false, false, false, false, false, false, false, false, false, false, false]) rfl (by kernel_rfl) (fun _ _ _ h => h) (.inl ⟨by rfl, ?hy5⟩) (by assumption) (by kernel_rfl) ?rest5
  case hy5 => (intro w' hSw; (try dsimp only at hSw); go_simp; try with_reducible rfl)
  try simp only [Act.put, List.setIfInBounds_toArray, List.set_cons_zero, List.set_cons_succ]
  refine wpAnyG_takeL (i := 5) (v := ?v6) (fuel := 10) (listed' := #[true, true, true, true, true, true, false, false, false, false, false, false, false, false, false, false]) rfl (by kernel_rfl) (fun _ _ _ h => h) (.inl ⟨by rfl, ?hy6⟩) (by assumption) (by kernel_rfl) ?rest6
  case hy6 => (intro w' hSw; (try dsimp only at hSw); go_simp; try with_reducible rfl)
  try simp only [Act.put, List.setIfInBounds_toArray, List.set_cons_zero, List.set_cons_succ]
  refine wpAnyG_takeL (i := 7) (v := ?v7) (fuel := 9) (listed' := #[true, true, true, true, true, true, false, true, false, false, false, false, false, false, false, false]) rfl (by kernel_rfl) (fun _ _ _ h => h) (.inl ⟨by rfl, ?hy7⟩) (by assumption) (by kernel_rfl) ?rest7
  case hy7 => (intro w' hSw; (try dsimp only at hSw); go_simp; try with_reducible rfl)
  try simp only [Act.put, List.setIfInBounds_toArray, List.set_cons_zero, List.set_cons_succ]
  refine wpAnyG_takeL (i := 8) (v := ?v8) (fuel := 8) (listed' := #[true, true, true, true, true, true, false, true, true, false, false, false, false, false, false, false]) rfl (by kernel_rfl) (fun _ _ _ h => h) (.inl ⟨by rfl, ?hy8⟩) (by assumption) (by kernel_rfl) ?rest8
  case hy8 => (intro w' hSw; (try dsimp only at hSw); go_simp; try with_reducible rfl)
  try simp only [Act.put, List.setIfInBounds_toArray, List.set_cons_zero, List.set_cons_succ]
  refine wpAnyG_takeL (i := 9) (v := ?v9) (fuel := 7) (listed' := #[true, true, true, true, true, true, false, true, true, true, false, false, false, false, false, false]) rfl (by kernel_rfl) (fun _ _ _ h => h) (.inl ⟨by rfl, ?hy9⟩) (by assumption) (by kernel_rfl) ?rest9
  case hy9 => (intro w' hSw; (try dsimp only at hSw); go_simp; try with_reducible rfl)
  try simp only [Act.put, List.setIfInBounds_toArray, List.set_cons_zero, List.set_cons_succ]
  refine wpAnyG_takeL (i := 10) (v := ?v10) (fuel := 6) (listed' := #[true, true, true, true, true, true, false, true, true, true, true, false, false, false, false, false]) rfl (by kernel_rfl) (fun _ _ _ h => h) (.inl ⟨by rfl, ?hy10⟩) (by assumption) (by kernel_rfl) ?rest10
  case hy10 => (intro w' hSw; (try dsimp only at hSw); go_simp; try with_reducible rfl)
  try simp only [Act.put, List.setIfInBounds_toArray, List.set_cons_zero, List.set_cons_succ]
  refine wpAnyG_takeL (i := 11) (v := ?v11) (fuel := 5) (listed' := #[true, true, true, true, true, true, false, true, true, true, true, true, false, false, false, false]) rfl (by kernel_rfl) (fun _ _ _ h => h) (.inl ⟨by rfl, ?hy11⟩) (by assumption) (by kernel_rfl) ?rest11
  case hy11 => (intro w' hSw; (try dsimp only at hSw); go_simp; try with_reducible rfl)
  try simp only [Act.put, List.setIfInBounds_toArray, List.set_cons_zero, List.set_cons_succ]
  refine wpAnyG_takeL (i := 12) (v := ?v12) (fuel := 4) (listed' := #[true, true, true, true, true, true, false, true, true, true, true, true, true, false, false, false]) rfl (by kernel_rfl) (fun _ _ _ h => h) (.inl ⟨by rfl, ?hy12⟩) (by assumption) (by kernel_rfl) ?rest12
  case hy12 => (intro w' hSw; (try dsimp only at hSw); go_simp; try with_reducible rfl)
  try simp only [Act.put, List.setIfInBounds_toArray, List.set_cons_zero, List.set_cons_succ]
  obtain ⟨La, hLa⟩ := H3.out.2.2.pc
  have hpr := erase_pc hLa bk
  rw [H.out.2.1] at hpr
  have HPR := Lib.hid hpr
  clear hpr hLa
  refine wpAnyG_oneL (i := 6) (fuel := 3) (listed' := #[true, true, true, true, true, true, true, true, true, true, true, true, true, false, false, false]) rfl (by kernel_rfl) (by kernel_rfl) (by rfl) (fun K hK0 => ?_)
  have hK := Lib.hid hK0
  clear hK0
  go_simp
  refine HPR.out.mono ?_
  rintro e w5 ⟨rfl, hpc5, ht5⟩
  have H5 := Lib.hid (And.intro hpc5 ht5)
  clear hpc5 ht5
  have hS5 : (fun w' : World => w'.cell? ⟨w.heap.size, 1, none⟩ = some (.int .i64 bk) ∧ w'.cell? ⟨w.heap.size, 2, none⟩ = some (.int .i64 pg) ∧ w'.cell? ⟨w.heap.size, 5, none⟩ = some (.slice Ah nh dh) ∧ w'.cell? ⟨pb, 0, none⟩ = some (.pointer (some ⟨a, 0, none⟩)) ∧ w'.cell? ⟨pb, 1, none⟩ = some (.pointer (some ⟨r, 0, none⟩))) w5 := HC4.out w5 ((Tch.of_below H3.out.1).then (H5.out.2.mono (fun k h => .inl h)) (fun _ _ h => h))
  refine hK.out _ _ (.inl (hS5)) ?_
  clear hK K
  try simp only [Act.put, List.setIfInBounds_toArray, List.set_cons_zero, List.set_cons_succ]
  clear hS0
  have hS0 := hS5
  dsimp only at hS0
  obtain ⟨Lr5, hLr5⟩ := H3.out.2.2.rc.tch H5.out.2 (fun k h1 h2 => H.out.1.dj k h2 h1)
  have hrp := rerase_any hLr5 (fun y hy => Nat.le_trans (H.out.1.mks y hy) (by decide)) bk
  rw [H.out.2.1] at hrp
  have HRP := Lib.hid hrp
  clear hrp hLr5 hS5
  refine wpAnyG_oneL (i := 13) (fuel := 2) (listed' := #[true, true, true, true, true, true, true, true, true, true, true, true, true, true, false, false]) rfl (by kernel_rfl) (by kernel_rfl) (by rfl) (fun K hK0 => ?_)
  have hK := Lib.hid hK0
  clear hK0
  go_simp
  refine HRP.out.mono ?_
  rintro e w6 ⟨rfl, hrc6, ht6⟩
  have H6 := Lib.hid (And.intro hrc6 ht6)
  clear hrc6 ht6
  have hS6 : (fun w' : World => w'.cell? ⟨w.heap.size, 1, none⟩ = some (.int .i64 bk) ∧ w'.cell? ⟨w.heap.size, 2, none⟩ = some (.int .i64 pg) ∧ w'.cell? ⟨w.heap.size, 5, none⟩ = some (.slice Ah nh dh) ∧ w'.cell? ⟨pb, 0, none⟩ = some (.pointer (some ⟨a, 0, none⟩)) ∧ w'.cell? ⟨pb, 1, none⟩ = some (.pointer (some ⟨r, 0, none⟩))) w6 := HC4.out w6 (((Tch.of_below H3.out.1).then (H5.out.2.mono (fun k h => .inl h)) (fun _ _ h => h)).then (H6.out.2.mono (fun k h => .inr h)) (fun _ _ h => h))
  refine hK.out _ _ (.inl (hS6)) ?_
  clear hK K
  try simp only [Act.put, List.setIfInBounds_toArray, List.set_cons_zero, List.set_cons_succ]
  clear hS0
  have hS0 := hS6
  dsimp only at hS0
  generalize R.2 = rn at *
  refine wpAnyG_takeL (i := 14) (v := ?v13) (fuel := 1) (listed' := #[true, true, true, true, true, true, true, true, true, true, true, true, true, true, true, false]) rfl (by kernel_rfl) (fun _ _ _ h => h) (.inl ⟨by rfl, ?hy13⟩) (by assumption) (by kernel_rfl) ?rest13
  case hy13 => (intro w' hSw; (try dsimp only at hSw); go_simp; try with_reducible rfl)
  try simp only [Act.put, List.setIfInBounds_toArray, List.set_cons_zero, List.set_cons_succ]
  refine wpAnyG_oneL (i := 15) (fuel := 0) (listed' := #[true, true, true, true, true, true, true, true, true, true, true, true, true, true, true, true]) rfl (by kernel_rfl) (by kernel_rfl) (by rfl) (fun K hK0 => ?_)
  have hK := Lib.hid hK0
  clear hK0
  go_simp
  refine hK.out _ _ (.inr (by decide)) ?_
  clear hK K
  refine wpAnyG_done (by kernel_rfl) ?_ _
  clear hS6 hS0
  have HE := Lib.hid (H.out.1.deed H3.out.2.1 H5.out.1 H5.out.2 H6.out.1 H6.out.2 (by rw [← H.out.2.1]; exact eraseS_sub _ _))
  go_wp2_with fail
  go_ret
  refine ⟨?_, HE.out⟩
  simp
set_option maxRecDepth 100000 in
set_option maxHeartbeats 4000000 in
theorem pact4 {w : World} {base pb a r : Nat} {F F' : Nat → Prop} {c : Chp} (h : PairX w base pb a r F F' c) (x : Ac) (hd : x.do_ = 4) (Ab : Option Addr) (db : Nat) (Ah : Option Addr) (dh : Nat) (hv : ActIn w base x Ab Ah) :
    Calls Try.prog 49 #[.pointer (some ⟨pb, 0, none⟩), .agg (actCells x Ab db Ah dh)] w (PactEnd w base pb (actS c x)) := by
  have hac : actS c x = (hitsS c x.hits).1 := by
    unfold actS
    rw [if_neg (by omega), if_neg (by omega), if_pos hd]
  rw [hac]
  obtain ⟨R, hR⟩ : ∃ R, hitsS c x.hits = R := ⟨_, rfl⟩
  rw [hR]
  unfold actCells
  rw [hd]
  generalize x.bytes.length = nb at *
  generalize hnh : x.hits.length = nh at *
  generalize (x.fill.toNat : Int) = fl at *
  have hcl := act_cells h #[.int .i64 4, .int .i64 x.block, .int .i64 x.page, .int .u8 fl, .slice Ab nb db, .slice Ah nh dh]
  have hb1 := (Below.refl w.heap.size w).alloc (Nat.le_refl _) (.cells #[.int .i64 4, .int .i64 x.block, .int .i64 x.page, .int .u8 fl, .slice Ab nb db, .slice Ah nh dh] 49)
  have H := Lib.hid (And.intro h (And.intro hR (And.intro hv hnh)))
  generalize x.block = bk at *
  generalize x.page = pg at *
  obtain ⟨w1, hw1⟩ : ∃ w1, w1 = w.alloc (.cells #[.int .i64 4, .int .i64 bk, .int .i64 pg, .int .u8 fl, .slice Ab nb db, .slice Ah nh dh] 49) := ⟨_, rfl⟩
  rw [← hw1] at hcl hb1
  have HC4 := Lib.hid (show ∀ w', Tch (fun k => F k ∨ F' k) w1 w' → (fun w' : World => w'.cell? ⟨w.heap.size, 1, none⟩ = some (.int .i64 bk) ∧ w'.cell? ⟨w.heap.size, 2, none⟩ = some (.int .i64 pg) ∧ w'.cell? ⟨w.heap.size, 5, none⟩ = some (.slice Ah nh dh) ∧ w'.cell? ⟨pb, 0, none⟩ = some (.pointer (some ⟨a, 0, none⟩)) ∧ w'.cell? ⟨pb, 1, none⟩ = some (.pointer (some ⟨r, 0, none⟩))) w' from fun w' ht => by
    obtain ⟨e1, e2, e3⟩ := hcl w' ht
    exact ⟨e1 1, e1 2, e1 5, e2, e3⟩)
  have HW1 := Lib.hid hb1
  have k0 : w1.cell? ⟨w.heap.size, 0, none⟩ = some (.int .i64 4) := (hcl w1 (Tch.refl _ _)).1 0
  clear hcl hb1 h hR hac hv hd hnh
  go_enter Try.func49, Try.ntmps49
  go_wp2_with fail
  rw [← hw1]
  clear hw1
  go_wp2_with fail
  refine wp_region_G (fun w' : World => w'.cell? ⟨w.heap.size, 1, none⟩ = some (.int .i64 bk) ∧ w'.cell? ⟨w.heap.size, 2, none⟩ = some (.int .i64 pg) ∧ w'.cell? ⟨w.heap.size, 5, none⟩ = some (.slice Ah nh dh) ∧ w'.cell? ⟨pb, 0, none⟩ = some (.pointer (some ⟨a, 0, none⟩)) ∧ w'.cell? ⟨pb, 1, none⟩ = some (.pointer (some ⟨r, 0, none⟩))) 15 16 #[false, false, false, false, false, false, false, false, false, false, false, false, false, false, false, false] (by kernel_rfl) rfl (by kernel_rfl) ?_
  have hbd := (Below.refl w1.heap.size w1).drew
  generalize w1.drew = w3 at *
  have hb03 := below_then HW1.out HW1.out.size hbd
  have H3 := Lib.hid (And.intro hbd (And.intro hb03 (H.out.1.below hb03)))
  have hS0 : (fun w' : World => w'.cell? ⟨w.heap.size, 1, none⟩ = some (.int .i64 bk) ∧ w'.cell? ⟨w.heap.size, 2, none⟩ = some (.int .i64 pg) ∧ w'.cell? ⟨w.heap.size, 5, none⟩ = some (.slice Ah nh dh) ∧ w'.cell? ⟨pb, 0, none⟩ = some (.pointer (some ⟨a, 0, none⟩)) ∧ w'.cell? ⟨pb, 1, none⟩ = some (.pointer (some ⟨r, 0, none⟩))) w3 := HC4.out w3 (Tch.of_below hbd)
  dsimp only at hS0
  clear hbd hb03 k0
  refine wpAnyG_takeL (i := 0) (v := ?v14) (fuel := 15) (listed' := #[true, false, false, false, false, false, false, false, false, false, false, false, false, false, false, false]) rfl (by kernel_rfl) (fun _ _ _ h => h) (.inl ⟨by rfl, ?hy14⟩) (by assumption) (by kernel_rfl) ?rest14
  case hy14 => (intro w' hSw; (try dsimp only at hSw); go_simp; try with_reducible rfl)
  try simp only [Act.put, List.setIfInBounds_toArray, List.set_cons_zero, List.set_cons_succ]
  refine wpAnyG_takeL (i := 1) (v := ?v15) (fuel := 14) (listed' := #[true, true, false, false, false, false, false, false, false, false, false, false, false, false, false, false]) rfl (by kernel_rfl) (fun _ _ _ h => h) (.inl ⟨by rfl, ?hy15⟩) (by assumption) (by kernel_rfl) ?rest15
  case hy15 => (intro w' hSw; (try dsimp only at hSw); go_simp; try with_reducible rfl)
  try simp only [Act.put, List.setIfInBounds_toArray, List.set_cons_zero, List.set_cons_succ]
  refine wpAnyG_takeL (i := 2) (v := ?v16) (fuel := 13) (listed' := #[true, true, true, false, false, false, false, false, false, false, false, false, false, false, false, false]) rfl (by kernel_rfl) (fun _ _ _ h => h) (.inl ⟨by rfl, ?hy16⟩) (by assumption) (by kernel_rfl) ?rest16
  case hy16 => (intro w' hSw; (try dsimp only at hSw); go_simp; try with_reducible rfl)
  try simp only [Act.put, List.setIfInBounds_toArray, List.set_cons_zero, List.set_cons_succ]
  refine wpAnyG_takeL (i := 3) (v := ?v17) (fuel := 12) (listed' := #[true, true, true, true, false, false, false, false, false, false, false, false, false, false, false, false]) rfl (by kernel_rfl) (fun _ _ _ h => h) (.inl ⟨by rfl, ?hy17⟩) (by assumption) (by kernel_rfl) ?rest17
  case hy17 => (intro w' hSw; (try dsimp only at hSw); go_simp; try with_reducible rfl)
  try simp only [Act.put, List.setIfInBounds_toArray, List.set_cons_zero, List.set_cons_succ]
  refine wpAnyG_takeL (i := 4) (v := ?v18) (fuel := 11) (listed' := #[true, true, true, true, true, false, false, false, false, false, false, false, false, false, false, false]) rfl (by kernel_rfl) (fun _ _ _ h => h) (.inl ⟨by rfl, ?hy18⟩) (by assumption) (by kernel_rfl) ?rest18
  case hy18 => (intro w' hSw; (try dsimp only at hSw); go_simp; try with_reducible rfl)
  try simp only [Act.put, List.setIfInBounds_toArray, List.set_cons_zero, List.set_cons_succ]
  refine wpAnyG_takeL (i := 5) (v := ?v19) (fuel := 10) (listed' := #[true, true, true, true, true, true, false, false, false, false, false, false, false, false, false, false]) rfl (by kernel_rfl) (fun _ _ _ h => h) (.inl ⟨by rfl, ?hy19⟩) (by assumption) (by kernel_rfl) ?rest19
  case hy19 => (intro w' hSw; (try dsimp only at hSw); go_simp; try with_reducible rfl)
  try simp only [Act.put, List.setIfInBounds_toArray, List.set_cons_zero, List.set_cons_succ]
  refine wpAnyG_takeL (i := 7) (v := ?v20) (fuel := 9) (listed' := #[true, true, true, true, true, true, false, true, false, false, false, false, false, false, false, false]) rfl (by kernel_rfl) (fun _ _ _ h => h) (.inl ⟨by rfl, ?hy20⟩) (by assumption) (by kernel_rfl) ?rest20
  case hy20 => (intro w' hSw; (try dsimp only at hSw); go_simp; try with_reducible rfl)
  try simp only [Act.put, List.setIfInBounds_toArray, List.set_cons_zero, List.set_cons_succ]
  refine wpAnyG_takeL (i := 8) (v := ?v21) (fuel := 8) (listed' := #[true, true, true, true, true, true, false, true, true, false, false, false, false, false, false, false]) rfl (by kernel_rfl) (fun _ _ _ h => h) (.inl ⟨by rfl, ?hy21⟩) (by assumption) (by kernel_rfl) ?rest21
  case hy21 => (intro w' hSw; (try dsimp only at hSw); go_simp; try with_reducible rfl)
  try simp only [Act.put, List.setIfInBounds_toArray, List.set_cons_zero, List.set_cons_succ]
  refine wpAnyG_takeL (i := 9) (v := ?v22) (fuel := 7) (listed' := #[true, true, true, true, true, true, false, true, true, true, false, false, false, false, false, false]) rfl (by kernel_rfl) (fun _ _ _ h => h) (.inl ⟨by rfl, ?hy22⟩) (by assumption) (by kernel_rfl) ?rest22
  case hy22 => (intro w' hSw; (try dsimp only at hSw); go_simp; try with_reducible rfl)
  try simp only [Act.put, List.setIfInBounds_toArray, List.set_cons_zero, List.set_cons_succ]
  refine wpAnyG_takeL (i := 10) (v := ?v23) (fuel := 6) (listed' := #[true, true, true, true, true, true, false, true, true, true, true, false, false, false, false, false]) rfl (by kernel_rfl) (fun _ _ _ h => h) (.inl ⟨by rfl, ?hy23⟩) (by assumption) (by kernel_rfl) ?rest23
  case hy23 => (intro w' hSw; (try dsimp only at hSw); go_simp; try with_reducible rfl)
  try simp only [Act.put, List.setIfInBounds_toArray, List.set_cons_zero, List.set_cons_succ]
  refine wpAnyG_takeL (i := 11) (v := ?v24) (fuel := 5) (listed' := #[true, true, true, true, true, true, false, true, true, true, true, true, false, false, false, false]) rfl (by kernel_rfl) (fun _ _ _ h => h) (.inl ⟨by rfl, ?hy24⟩) (by assumption) (by kernel_rfl) ?rest24
  case hy24 => (intro w' hSw; (try dsimp only at hSw); go_simp; try with_reducible rfl)
  try simp only [Act.put, List.setIfInBounds_toArray, List.set_cons_zero, List.set_cons_succ]
  refine wpAnyG_takeL (i := 12) (v := ?v25) (fuel := 4) (listed' := #[true, true, true, true, true, true, false, true, true, true, true, true, true, false, false, false]) rfl (by kernel_rfl) (fun _ _ _ h => h) (.inl ⟨by rfl, ?hy25⟩) (by assumption) (by kernel_rfl) ?rest25
  case hy25 => (intro w' hSw; (try dsimp only at hSw); go_simp; try with_reducible rfl)
  try simp only [Act.put, List.setIfInBounds_toArray, List.set_cons_zero, List.set_cons_succ]
  obtain ⟨La, hLa⟩ := H3.out.2.2.pc
  have hl3 := (H.out.2.2.1.below H3.out.2.1).hp
  have hpr := hits_pc hLa Ah nh dh x.hits (hl3.keep (fun _ _ _ => rfl) (fun k h _ hf => by have := H.out.1.fb _ hf; omega)) H.out.2.2.2 (by rw [← H.out.2.2.2]; exact H.out.2.2.1.hm) H.out.2.2.1.hk
  rw [H.out.2.1] at hpr
  have HPR := Lib.hid hpr
  have HL3 := Lib.hid hl3
  clear hl3
  clear hpr hLa
  refine wpAnyG_oneL (i := 6) (fuel := 3) (listed' := #[true, true, true, true, true, true, true, true, true, true, true, true, true, false, false, false]) rfl (by kernel_rfl) (by kernel_rfl) (by rfl) (fun K hK0 => ?_)
  have hK := Lib.hid hK0
  clear hK0
  go_simp
  refine HPR.out.mono ?_
  rintro e w5 ⟨rfl, hpc5, ht5⟩
  have H5 := Lib.hid (And.intro hpc5 ht5)
  clear hpc5 ht5
  have hS5 : (fun w' : World => w'.cell? ⟨w.heap.size, 1, none⟩ = some (.int .i64 bk) ∧ w'.cell? ⟨w.heap.size, 2, none⟩ = some (.int .i64 pg) ∧ w'.cell? ⟨w.heap.size, 5, none⟩ = some (.slice Ah nh dh) ∧ w'.cell? ⟨pb, 0, none⟩ = some (.pointer (some ⟨a, 0, none⟩)) ∧ w'.cell? ⟨pb, 1, none⟩ = some (.pointer (some ⟨r, 0, none⟩))) w5 := HC4.out w5 ((Tch.of_below H3.out.1).then (H5.out.2.mono (fun k h => .inl h)) (fun _ _ h => h))
  refine hK.out _ _ (.inl (hS5)) ?_
  clear hK K
  try simp only [Act.put, List.setIfInBounds_toArray, List.set_cons_zero, List.set_cons_succ]
  clear hS0
  have hS0 := hS5
  dsimp only at hS0
  obtain ⟨Lr5, hLr5⟩ := H3.out.2.2.rc.tch H5.out.2 (fun k h1 h2 => H.out.1.dj k h2 h1)
  have hl5 := HL3.out.keep (w' := w5) (ok' := fun k => ¬ F' k) (fun k h1 h2 => H5.out.2.block k h2 (fun hf => by have := H.out.1.fb _ hf; omega)) (fun k h _ hf => by have := H.out.1.rb _ hf; omega)
  have hrp := rstrike_any hLr5 Ah nh dh x.hits hl5 H.out.2.2.2 (by rw [← H.out.2.2.2]; exact H.out.2.2.1.hm) H.out.2.2.1.hk
  rw [H.out.2.1] at hrp
  have HRP := Lib.hid hrp
  clear hl5
  clear hrp hLr5 hS5
  refine wpAnyG_oneL (i := 13) (fuel := 2) (listed' := #[true, true, true, true, true, true, true, true, true, true, true, true, true, true, false, false]) rfl (by kernel_rfl) (by kernel_rfl) (by rfl) (fun K hK0 => ?_)
  have hK := Lib.hid hK0
  clear hK0
  go_simp
  refine HRP.out.mono ?_
  rintro e w6 ⟨rfl, hrc6, ht6⟩
  have H6 := Lib.hid (And.intro hrc6 ht6)
  clear hrc6 ht6
  have hS6 : (fun w' : World => w'.cell? ⟨w.heap.size, 1, none⟩ = some (.int .i64 bk) ∧ w'.cell? ⟨w.heap.size, 2, none⟩ = some (.int .i64 pg) ∧ w'.cell? ⟨w.heap.size, 5, none⟩ = some (.slice Ah nh dh) ∧ w'.cell? ⟨pb, 0, none⟩ = some (.pointer (some ⟨a, 0, none⟩)) ∧ w'.cell? ⟨pb, 1, none⟩ = some (.pointer (some ⟨r, 0, none⟩))) w6 := HC4.out w6 (((Tch.of_below H3.out.1).then (H5.out.2.mono (fun k h => .inl h)) (fun _ _ h => h)).then (H6.out.2.mono (fun k h => .inr h)) (fun _ _ h => h))
  refine hK.out _ _ (.inl (hS6)) ?_
  clear hK K
  try simp only [Act.put, List.setIfInBounds_toArray, List.set_cons_zero, List.set_cons_succ]
  clear hS0
  have hS0 := hS6
  dsimp only at hS0
  generalize R.2 = rn at *
  refine wpAnyG_takeL (i := 14) (v := ?v26) (fuel := 1) (listed' := #[true, true, true, true, true, true, true, true, true, true, true, true, true, true, true, false]) rfl (by kernel_rfl) (fun _ _ _ h => h) (.inl ⟨by rfl, ?hy26⟩) (by assumption) (by kernel_rfl) ?rest26
  case hy26 => (intro w' hSw; (try dsimp only at hSw); go_simp; try with_reducible rfl)
  try simp only [Act.put, List.setIfInBounds_toArray, List.set_cons_zero, List.set_cons_succ]
  refine wpAnyG_oneL (i := 15) (fuel := 0) (listed' := #[true, true, true, true, true, true, true, true, true, true, true, true, true, true, true, true]) rfl (by kernel_rfl) (by kernel_rfl) (by rfl) (fun K hK0 => ?_)
  have hK := Lib.hid hK0
  clear hK0
  go_simp
  refine hK.out _ _ (.inr (by decide)) ?_
  clear hK K
  refine wpAnyG_done (by kernel_rfl) ?_ _
  clear hS6 hS0
  have HE := Lib.hid (H.out.1.deed2 H3.out.2.1 H5.out.1 H5.out.2 H6.out.1 H6.out.2 (by rw [← H.out.2.1]; exact hitsS_mk _ _ H.out.1.mks H.out.2.2.1.hk))
  go_wp2_with fail
  go_ret
  refine ⟨?_, HE.out⟩
  simp
end Go.Proofs.Ytlcdabmclcfagaa

/- What is done to both: Read, Power, nothing. -/
namespace Go.Proofs.Ytlcdabmclcfagaa
open Go.RowKit

set_option maxRecDepth 100000 in
set_option maxHeartbeats 4000000 in
theorem pact3 {w : World} {base pb a r : Nat} {F F' : Nat → Prop} {c : Chp} (h : PairX w base pb a r F F' c) (x : Ac) (hd : x.do_ = 3) (Ab : Option Addr) (db : Nat) (Ah : Option Addr) (dh : Nat) :
    Calls Try.prog 49 #[.pointer (some ⟨pb, 0, none⟩), .agg (actCells x Ab db Ah dh)] w (PactEnd w base pb (actS c x)) := by
  have hac : actS c x = c := by
    unfold actS
    rw [if_neg (by omega), if_neg (by omega), if_neg (by omega), if_neg (by omega)]
  rw [hac]
  obtain ⟨R, hR⟩ : ∃ R, readS c x.block x.page = R := ⟨_, rfl⟩
  unfold actCells
  rw [hd]
  generalize x.bytes.length = nb at *
  generalize hnh : x.hits.length = nh at *
  generalize (x.fill.toNat : Int) = fl at *
  have hcl := act_cells h #[.int .i64 3, .int .i64 x.block, .int .i64 x.page, .int .u8 fl, .slice Ab nb db, .slice Ah nh dh]
  have hb1 := (Below.refl w.heap.size w).alloc (Nat.le_refl _) (.cells #[.int .i64 3, .int .i64 x.block, .int .i64 x.page, .int .u8 fl, .slice Ab nb db, .slice Ah nh dh] 49)
  have H := Lib.hid (And.intro h hR)
  generalize x.block = bk at *
  generalize x.page = pg at *
  obtain ⟨w1, hw1⟩ : ∃ w1, w1 = w.alloc (.cells #[.int .i64 3, .int .i64 bk, .int .i64 pg, .int .u8 fl, .slice Ab nb db, .slice Ah nh dh] 49) := ⟨_, rfl⟩
  rw [← hw1] at hcl hb1
  have HC4 := Lib.hid (show ∀ w', Tch (fun k => F k ∨ F' k) w1 w' → (fun w' : World => w'.cell? ⟨w.heap.size, 1, none⟩ = some (.int .i64 bk) ∧ w'.cell? ⟨w.heap.size, 2, none⟩ = some (.int .i64 pg) ∧ w'.cell? ⟨w.heap.size, 5, none⟩ = some (.slice Ah nh dh) ∧ w'.cell? ⟨pb, 0, none⟩ = some (.pointer (some ⟨a, 0, none⟩)) ∧ w'.cell? ⟨pb, 1, none⟩ = some (.pointer (some ⟨r, 0, none⟩))) w' from fun w' ht => by
    obtain ⟨e1, e2, e3⟩ := hcl w' ht
    exact ⟨e1 1, e1 2, e1 5, e2, e3⟩)
  have HW1 := Lib.hid hb1
  have k0 : w1.cell? ⟨w.heap.size, 0, none⟩ = some (.int .i64 3) := (hcl w1 (Tch.refl _ _)).1 0
  have p1 : w1.cell? ⟨pb, 0, none⟩ = some (.pointer (some ⟨a, 0, none⟩)) := (hcl w1 (Tch.refl _ _)).2.1
  clear hcl hb1 h hac hnh hR
  go_enter Try.func49, Try.ntmps49
  go_wp2_with fail
  rw [← hw1]
  clear hw1
  go_wp2_with fail
  refine wp_region_G (fun w' : World => w'.cell? ⟨w.heap.size, 1, none⟩ = some (.int .i64 bk) ∧ w'.cell? ⟨w.heap.size, 2, none⟩ = some (.int .i64 pg) ∧ w'.cell? ⟨w.heap.size, 5, none⟩ = some (.slice Ah nh dh) ∧ w'.cell? ⟨pb, 0, none⟩ = some (.pointer (some ⟨a, 0, none⟩)) ∧ w'.cell? ⟨pb, 1, none⟩ = some (.pointer (some ⟨r, 0, none⟩))) 13 14 #[false, false, false, false, false, false, false, false, false, false, false, false, false, false] (by kernel_rfl) rfl (by kernel_rfl) ?_
  have hbd := (Below.refl w1.heap.size w1).drew
  generalize w1.drew = w3 at *
  have hb03 := below_then HW1.out HW1.out.size hbd
  have H3 := Lib.hid (And.intro hbd (And.intro hb03 (H.out.1.below hb03)))
  have hS0 : (fun w' : World => w'.cell? ⟨w.heap.size, 1, none⟩ = some (.int .i64 bk) ∧ w'.cell? ⟨w.heap.size, 2, none⟩ = some (.int .i64 pg) ∧ w'.cell? ⟨w.heap.size, 5, none⟩ = some (.slice Ah nh dh) ∧ w'.cell? ⟨pb, 0, none⟩ = some (.pointer (some ⟨a, 0, none⟩)) ∧ w'.cell? ⟨pb, 1, none⟩ = some (.pointer (some ⟨r, 0, none⟩))) w3 := HC4.out w3 (Tch.of_below hbd)
  dsimp only at hS0
  clear hbd hb03 k0 p1
  refine wpAnyG_takeL (i := 0) (v := ?v1) (fuel := 13) (listed' := #[true, false, false, false, false, false, false, false, false, false, false, false, false, false]) rfl (by kernel_rfl) (fun _ _ _ h => h) (.inl ⟨by rfl, ?hy1⟩) (by assumption) (by kernel_rfl) ?rest1
  case hy1 => (intro w' hSw; (try dsimp only at hSw); go_simp; try with_reducible rfl)
  try simp only [Act.put, List.setIfInBounds_toArray, List.set_cons_zero, List.set_cons_succ]
  refine wpAnyG_takeL (i := 1) (v := ?v2) (fuel := 12) (listed' := #[true, true, false, false, false, false, false, false, false, false, false, false, false, false]) rfl (by kernel_rfl) (fun _ _ _ h => h) (.inl ⟨by rfl, ?hy2⟩) (by assumption) (by kernel_rfl) ?rest2
  case hy2 => (intro w' hSw; (try dsimp only at hSw); go_simp; try with_reducible rfl)
  try simp only [Act.put, List.setIfInBounds_toArray, List.set_cons_zero, List.set_cons_succ]
  refine wpAnyG_takeL (i := 2) (v := ?v3) (fuel := 11) (listed' := #[true, true, true, false, false, false, false, false, false, false, false, false, false, false]) rfl (by kernel_rfl) (fun _ _ _ h => h) (.inl ⟨by rfl, ?hy3⟩) (by assumption) (by kernel_rfl) ?rest3
  case hy3 => (intro w' hSw; (try dsimp only at hSw); go_simp; try with_reducible rfl)
  try simp only [Act.put, List.setIfInBounds_toArray, List.set_cons_zero, List.set_cons_succ]
  refine wpAnyG_takeL (i := 3) (v := ?v4) (fuel := 10) (listed' := #[true, true, true, true, false, false, false, false, false, false, false, false, false, false]) rfl (by kernel_rfl) (fun _ _ _ h => h) (.inl ⟨by rfl, ?hy4⟩) (by assumption) (by kernel_rfl) ?rest4
  case hy4 => (intro w' hSw; (try dsimp only at hSw); go_simp; try with_reducible rfl)
  try simp only [Act.put, List.setIfInBounds_toArray, List.set_cons_zero, List.set_cons_succ]
  refine wpAnyG_takeL (i := 4) (v := ?v5) (fuel := 9) (listed' := #[true, true, true, true, true, false, false, false, false, false, false, false, false, false]) rfl (by kernel_rfl) (fun _ _ _ h => h) (.inl ⟨by rfl, ?hy5⟩) (by assumption) (by kernel_rfl) ?rest5
  case hy5 => (intro w' hSw; (try dsimp only at hSw); go_simp; try with_reducible rfl)
  try simp only [Act.put, List.setIfInBounds_toArray, List.set_cons_zero, List.set_cons_succ]
  refine wpAnyG_takeL (i := 5) (v := ?v6) (fuel := 8) (listed' := #[true, true, true, true, true, true, false, false, false, false, false, false, false, false]) rfl (by kernel_rfl) (fun _ _ _ h => h) (.inl ⟨by rfl, ?hy6⟩) (by assumption) (by kernel_rfl) ?rest6
  case hy6 => (intro w' hSw; (try dsimp only at hSw); go_simp; try with_reducible rfl)
  try simp only [Act.put, List.setIfInBounds_toArray, List.set_cons_zero, List.set_cons_succ]
  refine wpAnyG_takeL (i := 6) (v := ?v7) (fuel := 7) (listed' := #[true, true, true, true, true, true, true, false, false, false, false, false, false, false]) rfl (by kernel_rfl) (fun _ _ _ h => h) (.inl ⟨by rfl, ?hy7⟩) (by assumption) (by kernel_rfl) ?rest7
  case hy7 => (intro w' hSw; (try dsimp only at hSw); go_simp; try with_reducible rfl)
  try simp only [Act.put, List.setIfInBounds_toArray, List.set_cons_zero, List.set_cons_succ]
  refine wpAnyG_takeL (i := 7) (v := ?v8) (fuel := 6) (listed' := #[true, true, true, true, true, true, true, true, false, false, false, false, false, false]) rfl (by kernel_rfl) (fun _ _ _ h => h) (.inl ⟨by rfl, ?hy8⟩) (by assumption) (by kernel_rfl) ?rest8
  case hy8 => (intro w' hSw; (try dsimp only at hSw); go_simp; try with_reducible rfl)
  try simp only [Act.put, List.setIfInBounds_toArray, List.set_cons_zero, List.set_cons_succ]
  obtain ⟨La, hLa⟩ := H3.out.2.2.pc
  have hpr := read_pc hLa bk pg
  rw [H.out.2] at hpr
  have HPR := Lib.hid hpr
  clear hpr hLa
  refine wpAnyG_oneL (i := 8) (fuel := 5) (listed' := #[true, true, true, true, true, true, true, true, true, false, false, false, false, false]) rfl (by kernel_rfl) (by kernel_rfl) (by rfl) (fun K hK0 => ?_)
  have hK := Lib.hid hK0
  clear hK0
  go_simp
  refine HPR.out.mono ?_
  rintro e w5 ⟨v1, rfl, ho1, hb5⟩
  have hb35 := below_then H3.out.1 H3.out.1.size hb5
  have H5 := Lib.hid (And.intro ho1 hb35)
  clear ho1 hb5 hb35
  have hS5 : (fun w' : World => w'.cell? ⟨w.heap.size, 1, none⟩ = some (.int .i64 bk) ∧ w'.cell? ⟨w.heap.size, 2, none⟩ = some (.int .i64 pg) ∧ w'.cell? ⟨w.heap.size, 5, none⟩ = some (.slice Ah nh dh) ∧ w'.cell? ⟨pb, 0, none⟩ = some (.pointer (some ⟨a, 0, none⟩)) ∧ w'.cell? ⟨pb, 1, none⟩ = some (.pointer (some ⟨r, 0, none⟩))) w5 := HC4.out w5 (Tch.of_below H5.out.2)
  refine hK.out _ _ (.inl (hS5)) ?_
  clear hK K
  try simp only [Act.put, List.setIfInBounds_toArray, List.set_cons_zero, List.set_cons_succ]
  clear hS0
  have hS0 := hS5
  dsimp only at hS0
  refine wpAnyG_takeL (i := 9) (v := ?v9) (fuel := 4) (listed' := #[true, true, true, true, true, true, true, true, true, true, false, false, false, false]) rfl (by kernel_rfl) (fun _ _ _ h => h) (.inl ⟨by rfl, ?hy9⟩) (by assumption) (by kernel_rfl) ?rest9
  case hy9 => (intro w' hSw; (try dsimp only at hSw); go_simp; try with_reducible rfl)
  try simp only [Act.put, List.setIfInBounds_toArray, List.set_cons_zero, List.set_cons_succ]
  refine wpAnyG_takeL (i := 10) (v := ?v10) (fuel := 3) (listed' := #[true, true, true, true, true, true, true, true, true, true, true, false, false, false]) rfl (by kernel_rfl) (fun _ _ _ h => h) (.inl ⟨by rfl, ?hy10⟩) (by assumption) (by kernel_rfl) ?rest10
  case hy10 => (intro w' hSw; (try dsimp only at hSw); go_simp; try with_reducible rfl)
  try simp only [Act.put, List.setIfInBounds_toArray, List.set_cons_zero, List.set_cons_succ]
  refine wpAnyG_takeL (i := 11) (v := ?v11) (fuel := 2) (listed' := #[true, true, true, true, true, true, true, true, true, true, true, true, false, false]) rfl (by kernel_rfl) (fun _ _ _ h => h) (.inl ⟨by rfl, ?hy11⟩) (by assumption) (by kernel_rfl) ?rest11
  case hy11 => (intro w' hSw; (try dsimp only at hSw); go_simp; try with_reducible rfl)
  try simp only [Act.put, List.setIfInBounds_toArray, List.set_cons_zero, List.set_cons_succ]
  refine wpAnyG_takeL (i := 12) (v := ?v12) (fuel := 1) (listed' := #[true, true, true, true, true, true, true, true, true, true, true, true, true, false]) rfl (by kernel_rfl) (fun _ _ _ h => h) (.inl ⟨by rfl, ?hy12⟩) (by assumption) (by kernel_rfl) ?rest12
  case hy12 => (intro w' hSw; (try dsimp only at hSw); go_simp; try with_reducible rfl)
  try simp only [Act.put, List.setIfInBounds_toArray, List.set_cons_zero, List.set_cons_succ]
  refine wpAnyG_oneL (i := 13) (fuel := 0) (listed' := #[true, true, true, true, true, true, true, true, true, true, true, true, true, true]) rfl (by kernel_rfl) (by kernel_rfl) (by rfl) (fun K hK0 => ?_)
  have hK := Lib.hid hK0
  clear hK0
  go_simp
  refine hK.out _ _ (.inr (by decide)) ?_
  clear hK K
  refine wpAnyG_done (by kernel_rfl) ?_ _
  clear hS0 hS5
  go_wp2_with fail
  refine wp_region_G (fun w' : World => w'.cell? ⟨w.heap.size, 1, none⟩ = some (.int .i64 bk) ∧ w'.cell? ⟨w.heap.size, 2, none⟩ = some (.int .i64 pg) ∧ w'.cell? ⟨w.heap.size, 5, none⟩ = some (.slice Ah nh dh) ∧ w'.cell? ⟨pb, 0, none⟩ = some (.pointer (some ⟨a, 0, none⟩)) ∧ w'.cell? ⟨pb, 1, none⟩ = some (.pointer (some ⟨r, 0, none⟩))) 13 14 #[false, false, false, false, false, false, false, false, false, false, false, false, false, false] (by kernel_rfl) rfl (by kernel_rfl) ?_
  have hbd := (Below.refl w5.heap.size w5).drew
  generalize w5.drew = w6 at *
  have hb16 := below_then H5.out.2 H5.out.2.size hbd
  have hb06 := below_then HW1.out HW1.out.size hb16
  have H6 := Lib.hid (And.intro (H5.out.1.below hbd) (And.intro hb16 (H.out.1.below hb06)))
  have hS0 : (fun w' : World => w'.cell? ⟨w.heap.size, 1, none⟩ = some (.int .i64 bk) ∧ w'.cell? ⟨w.heap.size, 2, none⟩ = some (.int .i64 pg) ∧ w'.cell? ⟨w.heap.size, 5, none⟩ = some (.slice Ah nh dh) ∧ w'.cell? ⟨pb, 0, none⟩ = some (.pointer (some ⟨a, 0, none⟩)) ∧ w'.cell? ⟨pb, 1, none⟩ = some (.pointer (some ⟨r, 0, none⟩))) w6 := HC4.out w6 (Tch.of_below hb16)
  dsimp only at hS0
  clear hbd hb06 hb16
  refine wpAnyG_takeL (i := 0) (v := ?v13) (fuel := 13) (listed' := #[true, false, false, false, false, false, false, false, false, false, false, false, false, false]) rfl (by kernel_rfl) (fun _ _ _ h => h) (.inl ⟨by rfl, ?hy13⟩) (by assumption) (by kernel_rfl) ?rest13
  case hy13 => (intro w' hSw; (try dsimp only at hSw); go_simp; try with_reducible rfl)
  try simp only [Act.put, List.setIfInBounds_toArray, List.set_cons_zero, List.set_cons_succ]
  refine wpAnyG_takeL (i := 1) (v := ?v14) (fuel := 12) (listed' := #[true, true, false, false, false, false, false, false, false, false, false, false, false, false]) rfl (by kernel_rfl) (fun _ _ _ h => h) (.inl ⟨by rfl, ?hy14⟩) (by assumption) (by kernel_rfl) ?rest14
  case hy14 => (intro w' hSw; (try dsimp only at hSw); go_simp; try with_reducible rfl)
  try simp only [Act.put, List.setIfInBounds_toArray, List.set_cons_zero, List.set_cons_succ]
  refine wpAnyG_takeL (i := 2) (v := ?v15) (fuel := 11) (listed' := #[true, true, true, false, false, false, false, false, false, false, false, false, false, false]) rfl (by kernel_rfl) (fun _ _ _ h => h) (.inl ⟨by rfl, ?hy15⟩) (by assumption) (by kernel_rfl) ?rest15
  case hy15 => (intro w' hSw; (try dsimp only at hSw); go_simp; try with_reducible rfl)
  try simp only [Act.put, List.setIfInBounds_toArray, List.set_cons_zero, List.set_cons_succ]
  refine wpAnyG_takeL (i := 3) (v := ?v16) (fuel := 10) (listed' := #[true, true, true, true, false, false, false, false, false, false, false, false, false, false]) rfl (by kernel_rfl) (fun _ _ _ h => h) (.inl ⟨by rfl, ?hy16⟩) (by assumption) (by kernel_rfl) ?rest16
  case hy16 => (intro w' hSw; (try dsimp only at hSw); go_simp; try with_reducible rfl)
  try simp only [Act.put, List.setIfInBounds_toArray, List.set_cons_zero, List.set_cons_succ]
  refine wpAnyG_takeL (i := 4) (v := ?v17) (fuel := 9) (listed' := #[true, true, true, true, true, false, false, false, false, false, false, false, false, false]) rfl (by kernel_rfl) (fun _ _ _ h => h) (.inl ⟨by rfl, ?hy17⟩) (by assumption) (by kernel_rfl) ?rest17
  case hy17 => (intro w' hSw; (try dsimp only at hSw); go_simp; try with_reducible rfl)
  try simp only [Act.put, List.setIfInBounds_toArray, List.set_cons_zero, List.set_cons_succ]
  refine wpAnyG_takeL (i := 5) (v := ?v18) (fuel := 8) (listed' := #[true, true, true, true, true, true, false, false, false, false, false, false, false, false]) rfl (by kernel_rfl) (fun _ _ _ h => h) (.inl ⟨by rfl, ?hy18⟩) (by assumption) (by kernel_rfl) ?rest18
  case hy18 => (intro w' hSw; (try dsimp only at hSw); go_simp; try with_reducible rfl)
  try simp only [Act.put, List.setIfInBounds_toArray, List.set_cons_zero, List.set_cons_succ]
  refine wpAnyG_takeL (i := 6) (v := ?v19) (fuel := 7) (listed' := #[true, true, true, true, true, true, true, false, false, false, false, false, false, false]) rfl (by kernel_rfl) (fun _ _ _ h => h) (.inl ⟨by rfl, ?hy19⟩) (by assumption) (by kernel_rfl) ?rest19
  case hy19 => (intro w' hSw; (try dsimp only at hSw); go_simp; try with_reducible rfl)
  try simp only [Act.put, List.setIfInBounds_toArray, List.set_cons_zero, List.set_cons_succ]
  refine wpAnyG_takeL (i := 7) (v := ?v20) (fuel := 6) (listed' := #[true, true, true, true, true, true, true, true, false, false, false, false, false, false]) rfl (by kernel_rfl) (fun _ _ _ h => h) (.inl ⟨by rfl, ?hy20⟩) (by assumption) (by kernel_rfl) ?rest20
  case hy20 => (intro w' hSw; (try dsimp only at hSw); go_simp; try with_reducible rfl)
  try simp only [Act.put, List.setIfInBounds_toArray, List.set_cons_zero, List.set_cons_succ]
  obtain ⟨Lr, hLr⟩ := H6.out.2.2.rc
  have hpr := rread_any hLr bk pg
  rw [H.out.2] at hpr
  have HPR2 := Lib.hid hpr
  clear hpr hLr
  refine wpAnyG_oneL (i := 8) (fuel := 5) (listed' := #[true, true, true, true, true, true, true, true, true, false, false, false, false, false]) rfl (by kernel_rfl) (by kernel_rfl) (by rfl) (fun K hK0 => ?_)
  have hK := Lib.hid hK0
  clear hK0
  go_simp
  refine HPR2.out.mono ?_
  rintro e w7 ⟨v2, rfl, ho2, hb7⟩
  have hb17 := below_then H6.out.2.1 H6.out.2.1.size hb7
  have hb07 := below_then HW1.out HW1.out.size hb17
  have H7 := Lib.hid (And.intro (H6.out.1.below hb7) (And.intro ho2 (And.intro hb17 hb07)))
  clear ho2 hb7 hb17 hb07
  have hS5 : (fun w' : World => w'.cell? ⟨w.heap.size, 1, none⟩ = some (.int .i64 bk) ∧ w'.cell? ⟨w.heap.size, 2, none⟩ = some (.int .i64 pg) ∧ w'.cell? ⟨w.heap.size, 5, none⟩ = some (.slice Ah nh dh) ∧ w'.cell? ⟨pb, 0, none⟩ = some (.pointer (some ⟨a, 0, none⟩)) ∧ w'.cell? ⟨pb, 1, none⟩ = some (.pointer (some ⟨r, 0, none⟩))) w7 := HC4.out w7 (Tch.of_below H7.out.2.2.1)
  refine hK.out _ _ (.inl (hS5)) ?_
  clear hK K
  try simp only [Act.put, List.setIfInBounds_toArray, List.set_cons_zero, List.set_cons_succ]
  clear hS0
  have hS0 := hS5
  dsimp only at hS0
  refine wpAnyG_takeL (i := 9) (v := ?v21) (fuel := 4) (listed' := #[true, true, true, true, true, true, true, true, true, true, false, false, false, false]) rfl (by kernel_rfl) (fun _ _ _ h => h) (.inl ⟨by rfl, ?hy21⟩) (by assumption) (by kernel_rfl) ?rest21
  case hy21 => (intro w' hSw; (try dsimp only at hSw); go_simp; try with_reducible rfl)
  try simp only [Act.put, List.setIfInBounds_toArray, List.set_cons_zero, List.set_cons_succ]
  refine wpAnyG_takeL (i := 10) (v := ?v22) (fuel := 3) (listed' := #[true, true, true, true, true, true, true, true, true, true, true, false, false, false]) rfl (by kernel_rfl) (fun _ _ _ h => h) (.inl ⟨by rfl, ?hy22⟩) (by assumption) (by kernel_rfl) ?rest22
  case hy22 => (intro w' hSw; (try dsimp only at hSw); go_simp; try with_reducible rfl)
  try simp only [Act.put, List.setIfInBounds_toArray, List.set_cons_zero, List.set_cons_succ]
  refine wpAnyG_takeL (i := 11) (v := ?v23) (fuel := 2) (listed' := #[true, true, true, true, true, true, true, true, true, true, true, true, false, false]) rfl (by kernel_rfl) (fun _ _ _ h => h) (.inl ⟨by rfl, ?hy23⟩) (by assumption) (by kernel_rfl) ?rest23
  case hy23 => (intro w' hSw; (try dsimp only at hSw); go_simp; try with_reducible rfl)
  try simp only [Act.put, List.setIfInBounds_toArray, List.set_cons_zero, List.set_cons_succ]
  refine wpAnyG_takeL (i := 12) (v := ?v24) (fuel := 1) (listed' := #[true, true, true, true, true, true, true, true, true, true, true, true, true, false]) rfl (by kernel_rfl) (fun _ _ _ h => h) (.inl ⟨by rfl, ?hy24⟩) (by assumption) (by kernel_rfl) ?rest24
  case hy24 => (intro w' hSw; (try dsimp only at hSw); go_simp; try with_reducible rfl)
  try simp only [Act.put, List.setIfInBounds_toArray, List.set_cons_zero, List.set_cons_succ]
  refine wpAnyG_oneL (i := 13) (fuel := 0) (listed' := #[true, true, true, true, true, true, true, true, true, true, true, true, true, true]) rfl (by kernel_rfl) (by kernel_rfl) (by rfl) (fun K hK0 => ?_)
  have hK := Lib.hid hK0
  clear hK0
  go_simp
  refine hK.out _ _ (.inr (by decide)) ?_
  clear hK K
  refine wpAnyG_done (by kernel_rfl) ?_ _
  clear hS0 hS5
  go_wp2_with fail
  refine (same_oo w7 _ _ v1 v2 R.1 R.1 H7.out.1 H7.out.2.1).mono ?_
  rintro e w8 ⟨rfl, hd8⟩
  rw [decide_eq_true rfl]
  have hb08 := below_then H7.out.2.2.2 H7.out.2.2.2.size (hd8.below _)
  have H8 := Lib.hid hb08
  clear hd8 hb08
  generalize R.2 = rn at *
  go_wp2_with fail
  go_ret
  refine ⟨?_, ⟨a, r, F, F', H.out.1.below H8.out⟩, ?_⟩
  · simp
  · exact ⟨H8.out.os, H8.out.tape, H8.out.output, H8.out.size, fun k hk => H8.out.block k (Nat.lt_of_lt_of_le hk H.out.1.base_le)⟩
set_option maxRecDepth 100000 in
set_option maxHeartbeats 4000000 in
theorem pact5 {w : World} {base pb a r : Nat} {F F' : Nat → Prop} {c : Chp} (h : PairX w base pb a r F F' c) (x : Ac) (hd : x.do_ = 5) (Ab : Option Addr) (db : Nat) (Ah : Option Addr) (dh : Nat) :
    Calls Try.prog 49 #[.pointer (some ⟨pb, 0, none⟩), .agg (actCells x Ab db Ah dh)] w (PactEnd w base pb (actS c x)) := by
  have hac : actS c x = powerS c := by
    unfold actS
    rw [if_neg (by omega), if_neg (by omega), if_neg (by omega), if_pos hd]
  rw [hac]
  skip
  unfold actCells
  rw [hd]
  generalize x.bytes.length = nb at *
  generalize hnh : x.hits.length = nh at *
  generalize (x.fill.toNat : Int) = fl at *
  have hcl := act_cells h #[.int .i64 5, .int .i64 x.block, .int .i64 x.page, .int .u8 fl, .slice Ab nb db, .slice Ah nh dh]
  have hb1 := (Below.refl w.heap.size w).alloc (Nat.le_refl _) (.cells #[.int .i64 5, .int .i64 x.block, .int .i64 x.page, .int .u8 fl, .slice Ab nb db, .slice Ah nh dh] 49)
  have H := Lib.hid (And.intro h trivial)
  generalize x.block = bk at *
  generalize x.page = pg at *
  obtain ⟨w1, hw1⟩ : ∃ w1, w1 = w.alloc (.cells #[.int .i64 5, .int .i64 bk, .int .i64 pg, .int .u8 fl, .slice Ab nb db, .slice Ah nh dh] 49) := ⟨_, rfl⟩
  rw [← hw1] at hcl hb1
  have HC4 := Lib.hid (show ∀ w', Tch (fun k => F k ∨ F' k) w1 w' → (fun w' : World => w'.cell? ⟨w.heap.size, 1, none⟩ = some (.int .i64 bk) ∧ w'.cell? ⟨w.heap.size, 2, none⟩ = some (.int .i64 pg) ∧ w'.cell? ⟨w.heap.size, 5, none⟩ = some (.slice Ah nh dh) ∧ w'.cell? ⟨pb, 0, none⟩ = some (.pointer (some ⟨a, 0, none⟩)) ∧ w'.cell? ⟨pb, 1, none⟩ = some (.pointer (some ⟨r, 0, none⟩))) w' from fun w' ht => by
    obtain ⟨e1, e2, e3⟩ := hcl w' ht
    exact ⟨e1 1, e1 2, e1 5, e2, e3⟩)
  have HW1 := Lib.hid hb1
  have k0 : w1.cell? ⟨w.heap.size, 0, none⟩ = some (.int .i64 5) := (hcl w1 (Tch.refl _ _)).1 0
  have p1 : w1.cell? ⟨pb, 0, none⟩ = some (.pointer (some ⟨a, 0, none⟩)) := (hcl w1 (Tch.refl _ _)).2.1
  have p0 := p1
  rw [hw1] at p0
  clear hcl hb1 h hac hnh
  go_enter Try.func49, Try.ntmps49
  go_wp2_with fail
  rw [← hw1]
  clear hw1
  have h1 := H.out.1.below HW1.out
  obtain ⟨La, hLa⟩ := h1.pc
  have HPR := Lib.hid (power_pc hLa)
  clear hLa h1
  go_wp2_with fail
  refine HPR.out.mono ?_
  rintro e w2 ⟨g, rfl, hpc, hb2⟩
  have hb02 := below_then HW1.out HW1.out.size hb2
  have hx2 := H.out.1.below hb02
  have q0 := hx2.p.cell 0
  have q1 := hx2.p.cell 1
  have f0 := hx2.p.frozen 0
  simp at q0 q1
  have hp2 := hx2.p.set_ 0 (.pointer (some ⟨g, 0, none⟩))
  have hfar : ∀ k, fsh w1 w2 k → k ≠ pb := fun k hk e => by
    have := (H.out.1.below HW1.out).p.lt
    unfold fsh at hk
    omega
  have hpc3 : PC (w2.setCell ⟨pb, 0, none⟩ (.pointer (some ⟨g, 0, none⟩))) (fsh w1 w2) g (powerS c) := by
    obtain ⟨Lp, hLp⟩ := hpc
    exact ⟨Lp, hLp.keep (fun k hk => Below.heap_setCell _ _ _ _ (hfar k hk)) (by simp [World.setCell])⟩
  have hpr : pb ≠ r := fun e => H.out.1.pr (by rw [e]; exact H.out.1.nr)
  have hrc3 : RC (w2.setCell ⟨pb, 0, none⟩ (.pointer (some ⟨g, 0, none⟩))) F' r c := by
    obtain ⟨Lp, hLp⟩ := hx2.rc
    exact ⟨Lp, hLp.keep (fun k hk => Below.heap_setCell _ _ _ _ (fun e => H.out.1.pr (by rw [show pb = k from e.symm]; exact hk))) (by simp [World.setCell])⟩
  have hb3 : Below base w (w2.setCell ⟨pb, 0, none⟩ (.pointer (some ⟨g, 0, none⟩))) := (show Below base w w2 from ⟨hb02.os, hb02.tape, hb02.output, hb02.size, fun k hk => hb02.block k (Nat.lt_of_lt_of_le hk H.out.1.base_le)⟩).setCell (p := ⟨pb, 0, none⟩) H.out.1.p0 _
  have hsz3 : (w2.setCell ⟨pb, 0, none⟩ (.pointer (some ⟨g, 0, none⟩))).heap.size = w2.heap.size := by simp [World.setCell]
  have H2 := Lib.hid (And.intro hp2 (And.intro hpc3 (And.intro hrc3 (And.intro hb3 (And.intro hsz3 (And.intro hb2.size (H.out.1.below HW1.out).base_le))))))
  clear hpc hb2 hb02 hx2 hp2 hpc3 hrc3 hb3 hsz3 hfar
  go_wp2_with fail
  obtain ⟨Lr, hLr⟩ := H2.out.2.2.1
  refine (rpower_any hLr).mono ?_
  rintro e w4 ⟨g', rfl, hrc4, hb4⟩
  have hp4 := H2.out.1.below hb4 H2.out.1.lt
  have q10 := hp4.cell 1
  have f1 := hp4.frozen 1
  simp at q10
  have hp5 := hp4.set_ 1 (.pointer (some ⟨g', 0, none⟩))
  have hple : pb < w2.heap.size := by
    have := H2.out.1.lt
    rwa [H2.out.2.2.2.2.1] at this
  have hfar : ∀ k, fsh (w2.setCell ⟨pb, 0, none⟩ (.pointer (some ⟨g, 0, none⟩))) w4 k → k ≠ pb := fun k hk e => by
    unfold fsh at hk
    rw [H2.out.2.2.2.2.1] at hk
    omega
  have hfp : ∀ k, fsh w1 w2 k → k ≠ pb := fun k hk e => by
    have := (H.out.1.below HW1.out).p.lt
    unfold fsh at hk
    omega
  have hrc5 : RC (w4.setCell ⟨pb, 1, none⟩ (.pointer (some ⟨g', 0, none⟩))) (fsh (w2.setCell ⟨pb, 0, none⟩ (.pointer (some ⟨g, 0, none⟩))) w4) g' (powerS c) := by
    obtain ⟨Lp, hLp⟩ := hrc4
    exact ⟨Lp, hLp.keep (fun k hk => Below.heap_setCell _ _ _ _ (hfar k hk)) (by simp [World.setCell])⟩
  have hpc5 : PC (w4.setCell ⟨pb, 1, none⟩ (.pointer (some ⟨g', 0, none⟩))) (fsh w1 w2) g (powerS c) := by
    obtain ⟨Lp, hLp⟩ := H2.out.2.1.below hb4
    exact ⟨Lp, hLp.keep (fun k hk => Below.heap_setCell _ _ _ _ (hfp k hk)) (by simp [World.setCell])⟩
  have hbb : base ≤ w2.heap.size := Nat.le_trans H2.out.2.2.2.2.2.2 H2.out.2.2.2.2.2.1
  have hb5 : Below base w (w4.setCell ⟨pb, 1, none⟩ (.pointer (some ⟨g', 0, none⟩))) := (below_then H2.out.2.2.2.1 (by rw [H2.out.2.2.2.2.1]; exact hbb) hb4).setCell (p := ⟨pb, 1, none⟩) H.out.1.p0 _
  have HE := Lib.hid (show PairS (w4.setCell ⟨pb, 1, none⟩ (.pointer (some ⟨g', 0, none⟩))) base pb (powerS c) ∧ Below base w (w4.setCell ⟨pb, 1, none⟩ (.pointer (some ⟨g', 0, none⟩))) from by
    refine ⟨⟨g, g', _, _, hpc5, hrc5, by simpa using hp5, fun k hk => ?_, fun k hk => ?_, fun hk => hfp _ hk rfl, fun hk => hfar _ hk rfl, fun k hk hf => ?_, H.out.1.p0, fun x hx => ?_⟩, hb5⟩
    · exact Nat.le_trans H2.out.2.2.2.2.2.2 hk.1
    · have h1 := hk.1
      rw [H2.out.2.2.2.2.1] at h1
      exact Nat.le_trans hbb h1
    · have h1 := hk.2
      have h2 := hf.1
      rw [H2.out.2.2.2.2.1] at h2
      omega
    · cases hx)
  clear hrc4 hb4 hp4 hp5 hfar hfp hrc5 hpc5 hb5 hLr hple hbb
  go_wp2_with fail
  go_ret
  exact ⟨rfl, HE.out⟩
set_option maxRecDepth 100000 in
set_option maxHeartbeats 4000000 in
theorem pact0 {w : World} {base pb a r : Nat} {F F' : Nat → Prop} {c : Chp} (h : PairX w base pb a r F F' c) (x : Ac) (h1 : x.do_ ≠ 1) (h2 : x.do_ ≠ 2) (h3 : x.do_ ≠ 3) (h4 : x.do_ ≠ 4) (h5 : x.do_ ≠ 5) (Ab : Option Addr) (db : Nat) (Ah : Option Addr) (dh : Nat) :
    Calls Try.prog 49 #[.pointer (some ⟨pb, 0, none⟩), .agg (actCells x Ab db Ah dh)] w (PactEnd w base pb (actS c x)) := by
  have hac : actS c x = c := by
    unfold actS
    rw [if_neg h1, if_neg h2, if_neg h4, if_neg h5]
  rw [hac]
  have t1 : (x.do_ == 1) = false := beq_eq_false_iff_ne.2 h1
  have t2 : (x.do_ == 2) = false := beq_eq_false_iff_ne.2 h2
  have t3 : (x.do_ == 3) = false := beq_eq_false_iff_ne.2 h3
  have t4 : (x.do_ == 4) = false := beq_eq_false_iff_ne.2 h4
  have t5 : (x.do_ == 5) = false := beq_eq_false_iff_ne.2 h5
  unfold actCells
  skip
  generalize x.bytes.length = nb at *
  generalize hnh : x.hits.length = nh at *
  generalize (x.fill.toNat : Int) = fl at *
  have hcl := act_cells h #[.int .i64 x.do_, .int .i64 x.block, .int .i64 x.page, .int .u8 fl, .slice Ab nb db, .slice Ah nh dh]
  have hb1 := (Below.refl w.heap.size w).alloc (Nat.le_refl _) (.cells #[.int .i64 x.do_, .int .i64 x.block, .int .i64 x.page, .int .u8 fl, .slice Ab nb db, .slice Ah nh dh] 49)
  have H := Lib.hid (And.intro h trivial)
  generalize x.do_ = dd at *
  generalize x.block = bk at *
  generalize x.page = pg at *
  obtain ⟨w1, hw1⟩ : ∃ w1, w1 = w.alloc (.cells #[.int .i64 dd, .int .i64 bk, .int .i64 pg, .int .u8 fl, .slice Ab nb db, .slice Ah nh dh] 49) := ⟨_, rfl⟩
  rw [← hw1] at hcl hb1
  have HC4 := Lib.hid (show ∀ w', Tch (fun k => F k ∨ F' k) w1 w' → (fun w' : World => w'.cell? ⟨w.heap.size, 1, none⟩ = some (.int .i64 bk) ∧ w'.cell? ⟨w.heap.size, 2, none⟩ = some (.int .i64 pg) ∧ w'.cell? ⟨w.heap.size, 5, none⟩ = some (.slice Ah nh dh) ∧ w'.cell? ⟨pb, 0, none⟩ = some (.pointer (some ⟨a, 0, none⟩)) ∧ w'.cell? ⟨pb, 1, none⟩ = some (.pointer (some ⟨r, 0, none⟩))) w' from fun w' ht => by
    obtain ⟨e1, e2, e3⟩ := hcl w' ht
    exact ⟨e1 1, e1 2, e1 5, e2, e3⟩)
  have HW1 := Lib.hid hb1
  have k0 : w1.cell? ⟨w.heap.size, 0, none⟩ = some (.int .i64 dd) := (hcl w1 (Tch.refl _ _)).1 0
  have p1 : w1.cell? ⟨pb, 0, none⟩ = some (.pointer (some ⟨a, 0, none⟩)) := (hcl w1 (Tch.refl _ _)).2.1
  clear hcl hb1 h hac hnh h1 h2 h3 h4 h5
  go_enter Try.func49, Try.ntmps49
  go_wp2_with fail
  rw [← hw1]
  clear hw1
  go_wp2_with fail
  go_ret
  exact ⟨rfl, ⟨a, r, F, F', H.out.1.below HW1.out⟩, ⟨HW1.out.os, HW1.out.tape, HW1.out.output, HW1.out.size, fun k hk => HW1.out.block k (Nat.lt_of_lt_of_le hk H.out.1.base_le)⟩⟩
end Go.Proofs.Ytlcdabmclcfagaa
