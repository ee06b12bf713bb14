import Derived.Deep.Cut
import Derived.Test.YtlcdabmclcfagaaMCk
import Derived.Test.YtlcdabmclcfagaaPldM
set_option linter.unusedVariables false
set_option linter.unusedSimpArgs false
/- NandOthers: the walk. -/
namespace Go.Proofs.Ytlcdabmclcfagaa
open Go.RowKit

set_option maxRecDepth 100000 in
set_option maxHeartbeats 2000000 in
theorem walkNandOthers (w : World) (B P S Sp : Int) (A : Option Addr) (c0 : Nat) (l : List Ac) (hl : ActsP w A l) (hR : l.length * 80 ≤ 140737488351232) (x : Ac) (Ab : Option Addr) (db : Nat) (Ah : Option Addr) (dh : Nat) (hin : ActIn w w.heap.size x Ab Ah) :
    Calls Try.prog 5 #[.agg #[.int .i64 B, .int .i64 P, .int .i64 S, .int .i64 Sp], .slice A l.length c0, .agg (actCells x Ab db Ah dh)] w fun e w' => e = .returned (.bool true) ∧ Below w.heap.size w w' := by
  have HAB := Lib.hid (show ∀ (w' : World) (sz : Nat), Below w.heap.size w w' → sz ≤ 256 → Calls Try.prog 23 #[.agg #[.int .i64 x.do_, .int .i64 x.block, .int .i64 x.page, .int .u8 (x.fill.toNat : Int), .slice Ab x.bytes.length db, .slice Ah x.hits.length dh], .int .i64 (sz : Int)] w' (ActBEnd w' w.heap.size (bytesS x sz)) from fun w' sz hb hsz =>
    act_bytes w' w.heap.size x Ab db Ah dh sz hsz (hin.below hb).rb (hin.below hb).lb (hin.below hb).mb)
  unfold actCells
  generalize bytesS x = bsx at *
  generalize x.bytes.length = nb at *
  generalize x.hits.length = nh at *
  generalize (x.fill.toNat : Int) = fl at *
  generalize x.do_ = dd at *
  generalize x.block = bk at *
  generalize x.page = pg at *
  have hbx := Boxes.mk' w B P S Sp #[.int .i64 dd, .int .i64 bk, .int .i64 pg, .int .u8 fl, .slice Ab nb db, .slice Ah nh dh]
  obtain ⟨w0, hw0⟩ : ∃ w0, w0 = (w.alloc (.cells #[.int .i64 B, .int .i64 P, .int .i64 S, .int .i64 Sp] 28)).alloc (.cells #[.int .i64 dd, .int .i64 bk, .int .i64 pg, .int .u8 fl, .slice Ab nb db, .slice Ah nh dh] 49) := ⟨_, rfl⟩
  rw [← hw0] at hbx
  have HP := Lib.hid (played_any w0 B P S Sp A l.length c0 l rfl (hl.below hbx.b0) (by omega))
  have H0 := Lib.hid hbx
  clear hbx hl hin
  generalize l.length = n at *
  go_enter Try.func5, Try.ntmps5
  go_wp2_with fail
  rw [← hw0]
  clear hw0
  go_wp2_with fail
  refine HP.out.mono ?_
  rintro e w1 ⟨hb1, hno, hyes⟩
  have H1 := Lib.hid (below_then H0.out.b0 H0.out.b0.size hb1)
  have HB1 := Lib.hid hb1
  by_cases hm : mayG (cutB B) (cutP P) S Sp
  · obtain ⟨pb, rfl, hps⟩ := hyes hm
    generalize playS (newS (cutB B).toNat (cutP P).toNat S.toNat Sp.toNat) l = c at *
    obtain ⟨a, r, F, F', hX⟩ := hps
    obtain ⟨La, hLa⟩ := hX.pc
    obtain ⟨Lr, hLr⟩ := hX.rc
    have HBY := Lib.hid (bytes_pc hLa)
    have q0 := hX.p.cell 0
    simp at q0
    have hok := hX.rc.ok
    have hgaF : ∀ k, k < w0.heap.size → ¬ F k := fun k hk hf => by have := hX.fb _ hf; omega
    have HC := Lib.hid (show ∀ w', Tch F w1 w' → (fun w' : World => w'.cell? ⟨w.heap.size + 1, 0, none⟩ = some (.int .i64 dd) ∧ w'.cell? ⟨w.heap.size + 1, 1, none⟩ = some (.int .i64 bk) ∧ w'.cell? ⟨w.heap.size + 1, 2, none⟩ = some (.int .i64 pg) ∧ w'.cell? ⟨w.heap.size + 1, 3, none⟩ = some (.int .u8 fl) ∧ w'.cell? ⟨w.heap.size + 1, 4, none⟩ = some (.slice Ab nb db) ∧ w'.cell? ⟨w.heap.size + 1, 5, none⟩ = some (.slice Ah nh dh) ∧ w'.cell? ⟨pb, 0, none⟩ = some (.pointer (some ⟨a, 0, none⟩)) ∧ w'.cell? ⟨pb, 1, none⟩ = some (.pointer (some ⟨r, 0, none⟩)) ∧ w'.cell? ⟨r, 0, none⟩ = some (.int .i64 (c.B : Int)) ∧ w'.cell? ⟨r, 1, none⟩ = some (.int .i64 (c.P : Int)) ∧ w'.cell? ⟨r, 2, none⟩ = some (.int .i64 (c.S : Int))) w' from fun w' ht => by
      have hB := (H0.out.act.below HB1.out H0.out.act.lt)
      have hB' := hB.heap (ht.block _ hB.lt (hgaF _ H0.out.act.lt))
      have hp := hX.p.heap (ht.block _ hX.p.lt hX.pf)
      have hc := (hLr.blk.heap (ht.block _ hLr.blk.lt (fun hf => hX.dj _ hf hLr.i1.1))).cell
      exact ⟨hB'.cell 0, hB'.cell 1, hB'.cell 2, hB'.cell 3, hB'.cell 4, hB'.cell 5, hp.cell 0, hp.cell 1, hc 0, hc 1, hc 2⟩)
    have HX := Lib.hid hX
    clear hyes hno hb1 hLa hLr hX hm
    have hpos := hok.pos
    have HOK := Lib.hid hok
    have hS2 := hok.s2
    have hP2 := hok.p2
    have hB2 := hok.b2
    have hN2 := hok.n
    go_wp2_with fail
    refine HBY.out.mono ?_
    rintro e w2 ⟨v2, rfl, ho2, hb2⟩
    obtain ⟨g2, full, rfl, hg2, hrow2, htk, hml⟩ := ho2.row hpos.1
    have H2 := Lib.hid (And.intro hb2 (And.intro hg2 (And.intro hrow2 (And.intro htk hml))))
    have hg2F : ¬ F g2 := fun hf => by have := HX.out.pc.lt _ hf; omega
    have HG2 := Lib.hid hg2F
    have hnf : c.bytes.length ≤ full.length := OwnB.len (g := g2) htk
    have hmlf : full.length ≤ maxLen := hml
    obtain ⟨nbs, hnbs⟩ : ∃ nbs, c.bytes.length = nbs := ⟨_, rfl⟩
    obtain ⟨fll, hfll⟩ : ∃ fll, full.length = fll := ⟨_, rfl⟩
    rw [hnbs] at hnf hpos ⊢
    rw [hfll] at hnf hmlf ⊢
    have HNB := Lib.hid (And.intro hnbs hfll)
    clear ho2 hb2 hg2 hrow2 htk hml hg2F hnbs hfll q0 hok
    go_wp2_with fail
    refine wp_region_G (fun w' : World => w'.cell? ⟨w.heap.size + 1, 0, none⟩ = some (.int .i64 dd) ∧ w'.cell? ⟨w.heap.size + 1, 1, none⟩ = some (.int .i64 bk) ∧ w'.cell? ⟨w.heap.size + 1, 2, none⟩ = some (.int .i64 pg) ∧ w'.cell? ⟨w.heap.size + 1, 3, none⟩ = some (.int .u8 fl) ∧ w'.cell? ⟨w.heap.size + 1, 4, none⟩ = some (.slice Ab nb db) ∧ w'.cell? ⟨w.heap.size + 1, 5, none⟩ = some (.slice Ah nh dh) ∧ w'.cell? ⟨pb, 0, none⟩ = some (.pointer (some ⟨a, 0, none⟩)) ∧ w'.cell? ⟨pb, 1, none⟩ = some (.pointer (some ⟨r, 0, none⟩)) ∧ w'.cell? ⟨r, 0, none⟩ = some (.int .i64 (c.B : Int)) ∧ w'.cell? ⟨r, 1, none⟩ = some (.int .i64 (c.P : Int)) ∧ w'.cell? ⟨r, 2, none⟩ = some (.int .i64 (c.S : Int))) 17 18 #[false, false, false, false, false, false, false, false, false, false, false, false, false, false, false, false, false, false] (by kernel_rfl) rfl (by kernel_rfl) ?_
    have hbd := (Below.refl w2.heap.size w2).drew
    have hS0 : (fun w' : World => w'.cell? ⟨w.heap.size + 1, 0, none⟩ = some (.int .i64 dd) ∧ w'.cell? ⟨w.heap.size + 1, 1, none⟩ = some (.int .i64 bk) ∧ w'.cell? ⟨w.heap.size + 1, 2, none⟩ = some (.int .i64 pg) ∧ w'.cell? ⟨w.heap.size + 1, 3, none⟩ = some (.int .u8 fl) ∧ w'.cell? ⟨w.heap.size + 1, 4, none⟩ = some (.slice Ab nb db) ∧ w'.cell? ⟨w.heap.size + 1, 5, none⟩ = some (.slice Ah nh dh) ∧ w'.cell? ⟨pb, 0, none⟩ = some (.pointer (some ⟨a, 0, none⟩)) ∧ w'.cell? ⟨pb, 1, none⟩ = some (.pointer (some ⟨r, 0, none⟩)) ∧ w'.cell? ⟨r, 0, none⟩ = some (.int .i64 (c.B : Int)) ∧ w'.cell? ⟨r, 1, none⟩ = some (.int .i64 (c.P : Int)) ∧ w'.cell? ⟨r, 2, none⟩ = some (.int .i64 (c.S : Int))) w2.drew := HC.out _ (Tch.of_below H2.out.1.drew)
    dsimp only at hS0
    have hrow3 : RowB 5 w2.drew g2 full := H2.out.2.2.1
    have hb3 := H2.out.1.drew
    generalize w2.drew = w3 at *
    have H3 := Lib.hid (And.intro hb3 hrow3)
    clear hbd hrow3 hb3
    refine wpAnyG_takeL (i := 0) (v := ?v1) (fuel := 17) (listed' := #[true, false, false, false, false, false, false, false, false, false, false, false, false, false, false, false, false, false]) rfl (by kernel_rfl) (fun _ _ _ h => h) (.inl ⟨by rfl, ?hy1⟩) (by assumption) (by kernel_rfl) ?rest1
    case hy1 => (intro w' hSw; (try dsimp only at hSw); go_simp; try with_reducible rfl)
    try simp only [Act.put, List.setIfInBounds_toArray, List.set_cons_zero, List.set_cons_succ]
    refine wpAnyG_takeL (i := 1) (v := ?v2) (fuel := 16) (listed' := #[true, true, false, false, false, false, false, false, false, false, false, false, false, false, false, false, false, false]) rfl (by kernel_rfl) (fun _ _ _ h => h) (.inl ⟨by rfl, ?hy2⟩) (by assumption) (by kernel_rfl) ?rest2
    case hy2 => (intro w' hSw; (try dsimp only at hSw); go_simp; try with_reducible rfl)
    try simp only [Act.put, List.setIfInBounds_toArray, List.set_cons_zero, List.set_cons_succ]
    refine wpAnyG_takeL (i := 2) (v := ?v3) (fuel := 15) (listed' := #[true, true, true, false, false, false, false, false, false, false, false, false, false, false, false, false, false, false]) rfl (by kernel_rfl) (fun _ _ _ h => h) (.inl ⟨by rfl, ?hy3⟩) (by assumption) (by kernel_rfl) ?rest3
    case hy3 => (intro w' hSw; (try dsimp only at hSw); go_simp; try with_reducible rfl)
    try simp only [Act.put, List.setIfInBounds_toArray, List.set_cons_zero, List.set_cons_succ]
    refine wpAnyG_takeL (i := 3) (v := ?v4) (fuel := 14) (listed' := #[true, true, true, true, false, false, false, false, false, false, false, false, false, false, false, false, false, false]) rfl (by kernel_rfl) (fun _ _ _ h => h) (.inl ⟨by rfl, ?hy4⟩) (by assumption) (by kernel_rfl) ?rest4
    case hy4 => (intro w' hSw; (try dsimp only at hSw); go_simp; try with_reducible rfl)
    try simp only [Act.put, List.setIfInBounds_toArray, List.set_cons_zero, List.set_cons_succ]
    refine wpAnyG_takeL (i := 4) (v := ?v5) (fuel := 13) (listed' := #[true, true, true, true, true, false, false, false, false, false, false, false, false, false, false, false, false, false]) rfl (by kernel_rfl) (fun _ _ _ h => h) (.inl ⟨by rfl, ?hy5⟩) (by assumption) (by kernel_rfl) ?rest5
    case hy5 => (intro w' hSw; (try dsimp only at hSw); go_simp; try with_reducible rfl)
    try simp only [Act.put, List.setIfInBounds_toArray, List.set_cons_zero, List.set_cons_succ]
    refine wpAnyG_takeL (i := 5) (v := ?v6) (fuel := 12) (listed' := #[true, true, true, true, true, true, false, false, false, false, false, false, false, false, false, false, false, false]) rfl (by kernel_rfl) (fun _ _ _ h => h) (.inl ⟨by rfl, ?hy6⟩) (by assumption) (by kernel_rfl) ?rest6
    case hy6 => (intro w' hSw; (try dsimp only at hSw); go_simp; try with_reducible rfl)
    try simp only [Act.put, List.setIfInBounds_toArray, List.set_cons_zero, List.set_cons_succ]
    refine wpAnyG_takeL (i := 6) (v := ?v7) (fuel := 11) (listed' := #[true, true, true, true, true, true, true, false, false, false, false, false, false, false, false, false, false, false]) rfl (by kernel_rfl) (fun _ _ _ h => h) (.inl ⟨by rfl, ?hy7⟩) (by assumption) (by kernel_rfl) ?rest7
    case hy7 => (intro w' hSw; (try dsimp only at hSw); go_simp; try with_reducible rfl)
    try simp only [Act.put, List.setIfInBounds_toArray, List.set_cons_zero, List.set_cons_succ]
    refine wpAnyG_takeL (i := 7) (v := ?v8) (fuel := 10) (listed' := #[true, true, true, true, true, true, true, true, false, false, false, false, false, false, false, false, false, false]) rfl (by kernel_rfl) (fun _ _ _ h => h) (.inl ⟨by rfl, ?hy8⟩) (by assumption) (by kernel_rfl) ?rest8
    case hy8 => (intro w' hSw; (try dsimp only at hSw); go_simp; try with_reducible rfl)
    try simp only [Act.put, List.setIfInBounds_toArray, List.set_cons_zero, List.set_cons_succ]
    refine wpAnyG_takeL (i := 8) (v := ?v9) (fuel := 9) (listed' := #[true, true, true, true, true, true, true, true, true, false, false, false, false, false, false, false, false, false]) rfl (by kernel_rfl) (fun _ _ _ h => h) (.inl ⟨by rfl, ?hy9⟩) (by assumption) (by kernel_rfl) ?rest9
    case hy9 => (intro w' hSw; (try dsimp only at hSw); go_simp; try with_reducible rfl)
    try simp only [Act.put, List.setIfInBounds_toArray, List.set_cons_zero, List.set_cons_succ]
    refine wpAnyG_takeL (i := 9) (v := ?v10) (fuel := 8) (listed' := #[true, true, true, true, true, true, true, true, true, true, false, false, false, false, false, false, false, false]) rfl (by kernel_rfl) (fun _ _ _ h => h) (.inl ⟨by rfl, ?hy10⟩) (by assumption) (by kernel_rfl) ?rest10
    case hy10 => (intro w' hSw; (try dsimp only at hSw); go_simp; try with_reducible rfl)
    try simp only [Act.put, List.setIfInBounds_toArray, List.set_cons_zero, List.set_cons_succ]
    refine wpAnyG_takeL (i := 10) (v := ?v11) (fuel := 7) (listed' := #[true, true, true, true, true, true, true, true, true, true, true, false, false, false, false, false, false, false]) rfl (by kernel_rfl) (fun _ _ _ h => h) (.inl ⟨by rfl, ?hy11⟩) (by assumption) (by kernel_rfl) ?rest11
    case hy11 => (intro w' hSw; (try dsimp only at hSw); go_simp; try with_reducible rfl)
    try simp only [Act.put, List.setIfInBounds_toArray, List.set_cons_zero, List.set_cons_succ]
    refine wpAnyG_takeL (i := 11) (v := ?v12) (fuel := 6) (listed' := #[true, true, true, true, true, true, true, true, true, true, true, true, false, false, false, false, false, false]) rfl (by kernel_rfl) (fun _ _ _ h => h) (.inl ⟨by rfl, ?hy12⟩) (by assumption) (by kernel_rfl) ?rest12
    case hy12 => (intro w' hSw; (try dsimp only at hSw); go_simp; try with_reducible rfl)
    try simp only [Act.put, List.setIfInBounds_toArray, List.set_cons_zero, List.set_cons_succ]
    refine wpAnyG_takeL (i := 12) (v := ?v13) (fuel := 5) (listed' := #[true, true, true, true, true, true, true, true, true, true, true, true, true, false, false, false, false, false]) rfl (by kernel_rfl) (fun _ _ _ h => h) (.inl ⟨by rfl, ?hy13⟩) (by assumption) (by kernel_rfl) ?rest13
    case hy13 => (intro w' hSw; (try dsimp only at hSw); go_simp; try with_reducible rfl)
    try simp only [Act.put, List.setIfInBounds_toArray, List.set_cons_zero, List.set_cons_succ]
    refine wpAnyG_takeL (i := 13) (v := ?v14) (fuel := 4) (listed' := #[true, true, true, true, true, true, true, true, true, true, true, true, true, true, false, false, false, false]) rfl (by kernel_rfl) (fun _ _ _ h => h) (.inl ⟨by rfl, ?hy14⟩) (by assumption) (by kernel_rfl) ?rest14
    case hy14 => (intro w' hSw; (try dsimp only at hSw); go_simp; try with_reducible rfl)
    try simp only [Act.put, List.setIfInBounds_toArray, List.set_cons_zero, List.set_cons_succ]
    refine wpAnyG_takeL (i := 14) (v := ?v15) (fuel := 3) (listed' := #[true, true, true, true, true, true, true, true, true, true, true, true, true, true, true, false, false, false]) rfl (by kernel_rfl) (fun _ _ _ h => h) (.inl ⟨by rfl, ?hy15⟩) (by assumption) (by kernel_rfl) ?rest15
    case hy15 => (intro w' hSw; (try dsimp only at hSw); go_simp; try with_reducible rfl)
    try simp only [Act.put, List.setIfInBounds_toArray, List.set_cons_zero, List.set_cons_succ]
    refine wpAnyG_takeL (i := 15) (v := ?v16) (fuel := 2) (listed' := #[true, true, true, true, true, true, true, true, true, true, true, true, true, true, true, true, false, false]) rfl (by kernel_rfl) (fun _ _ _ h => h) (.inl ⟨by rfl, ?hy16⟩) (by assumption) (by kernel_rfl) ?rest16
    case hy16 => (intro w' hSw; (try dsimp only at hSw); go_simp; try with_reducible rfl)
    try simp only [Act.put, List.setIfInBounds_toArray, List.set_cons_zero, List.set_cons_succ]
    refine wpAnyG_takeL (i := 16) (v := ?v17) (fuel := 1) (listed' := #[true, true, true, true, true, true, true, true, true, true, true, true, true, true, true, true, true, false]) rfl (by kernel_rfl) (fun _ _ _ h => h) (.inl ⟨by rfl, ?hy17⟩) (by assumption) (by kernel_rfl) ?rest17
    case hy17 => (intro w' hSw; (try dsimp only at hSw); go_simp; try with_reducible rfl)
    try simp only [Act.put, List.setIfInBounds_toArray, List.set_cons_zero, List.set_cons_succ]
    refine wpAnyG_oneL (i := 17) (fuel := 0) (listed' := #[true, true, true, true, true, true, true, true, true, true, true, true, true, true, true, true, true, true]) rfl (by kernel_rfl) (by kernel_rfl) (by rfl) (fun K hK0 => ?_)
    have hK := Lib.hid hK0
    clear hK0
    go_simp
    refine hK.out _ _ (.inr (by decide)) ?_
    clear hK K
    refine wpAnyG_done (by kernel_rfl) ?_ _
    obtain ⟨k0, k1, k2, _, _, _, _, _, _, _, _⟩ := hS0
    go_upto_if 47 with fail
    go_cut [12, 13] from 45 (fun f t wx => ∃ (c' : Chp) (fr to : Nat), f = .int .i64 (fr : Int) ∧ t = .int .i64 (to : Int) ∧ PC wx F a c' ∧ Tch F w1 wx ∧ RowB 5 wx g2 full ∧ Keeps c.bytes c'.bytes fr to)
    case first =>
      by_cases hd : dd = 1
      · have t1 : (dd == 1) = true := by rw [hd]; rfl
        clear hd
        go_wp2_with fail
        refine wp_region_G (fun w' : World => w'.cell? ⟨w.heap.size + 1, 0, none⟩ = some (.int .i64 dd) ∧ w'.cell? ⟨w.heap.size + 1, 1, none⟩ = some (.int .i64 bk) ∧ w'.cell? ⟨w.heap.size + 1, 2, none⟩ = some (.int .i64 pg) ∧ w'.cell? ⟨w.heap.size + 1, 3, none⟩ = some (.int .u8 fl) ∧ w'.cell? ⟨w.heap.size + 1, 4, none⟩ = some (.slice Ab nb db) ∧ w'.cell? ⟨w.heap.size + 1, 5, none⟩ = some (.slice Ah nh dh) ∧ w'.cell? ⟨pb, 0, none⟩ = some (.pointer (some ⟨a, 0, none⟩)) ∧ w'.cell? ⟨pb, 1, none⟩ = some (.pointer (some ⟨r, 0, none⟩)) ∧ w'.cell? ⟨r, 0, none⟩ = some (.int .i64 (c.B : Int)) ∧ w'.cell? ⟨r, 1, none⟩ = some (.int .i64 (c.P : Int)) ∧ w'.cell? ⟨r, 2, none⟩ = some (.int .i64 (c.S : Int))) 11 12 #[false, false, false, false, false, false, false, false, false, false, false, false] (by kernel_rfl) rfl (by kernel_rfl) ?_
        have hb4 := H3.out.1.drew
        have hS0 : (fun w' : World => w'.cell? ⟨w.heap.size + 1, 0, none⟩ = some (.int .i64 dd) ∧ w'.cell? ⟨w.heap.size + 1, 1, none⟩ = some (.int .i64 bk) ∧ w'.cell? ⟨w.heap.size + 1, 2, none⟩ = some (.int .i64 pg) ∧ w'.cell? ⟨w.heap.size + 1, 3, none⟩ = some (.int .u8 fl) ∧ w'.cell? ⟨w.heap.size + 1, 4, none⟩ = some (.slice Ab nb db) ∧ w'.cell? ⟨w.heap.size + 1, 5, none⟩ = some (.slice Ah nh dh) ∧ w'.cell? ⟨pb, 0, none⟩ = some (.pointer (some ⟨a, 0, none⟩)) ∧ w'.cell? ⟨pb, 1, none⟩ = some (.pointer (some ⟨r, 0, none⟩)) ∧ w'.cell? ⟨r, 0, none⟩ = some (.int .i64 (c.B : Int)) ∧ w'.cell? ⟨r, 1, none⟩ = some (.int .i64 (c.P : Int)) ∧ w'.cell? ⟨r, 2, none⟩ = some (.int .i64 (c.S : Int))) w3.drew := HC.out _ (Tch.of_below hb4)
        dsimp only at hS0
        have hrow4 : RowB 5 w3.drew g2 full := H3.out.2
        generalize w3.drew = w4 at *
        have H4 := Lib.hid (And.intro hb4 hrow4)
        clear hb4 hrow4 k0 k1 k2
        refine wpAnyG_takeL (i := 0) (v := ?v18) (fuel := 11) (listed' := #[true, false, false, false, false, false, false, false, false, false, false, false]) rfl (by kernel_rfl) (fun _ _ _ h => h) (.inl ⟨by rfl, ?hy18⟩) (by assumption) (by kernel_rfl) ?rest18
        case hy18 => (intro w' hSw; (try dsimp only at hSw); go_simp; try with_reducible rfl)
        try simp only [Act.put, List.setIfInBounds_toArray, List.set_cons_zero, List.set_cons_succ]
        refine wpAnyG_takeL (i := 1) (v := ?v19) (fuel := 10) (listed' := #[true, true, false, false, false, false, false, false, false, false, false, false]) rfl (by kernel_rfl) (fun _ _ _ h => h) (.inl ⟨by rfl, ?hy19⟩) (by assumption) (by kernel_rfl) ?rest19
        case hy19 => (intro w' hSw; (try dsimp only at hSw); go_simp; try with_reducible rfl)
        try simp only [Act.put, List.setIfInBounds_toArray, List.set_cons_zero, List.set_cons_succ]
        refine wpAnyG_takeL (i := 2) (v := ?v20) (fuel := 9) (listed' := #[true, true, true, false, false, false, false, false, false, false, false, false]) rfl (by kernel_rfl) (fun _ _ _ h => h) (.inl ⟨by rfl, ?hy20⟩) (by assumption) (by kernel_rfl) ?rest20
        case hy20 => (intro w' hSw; (try dsimp only at hSw); go_simp; try with_reducible rfl)
        try simp only [Act.put, List.setIfInBounds_toArray, List.set_cons_zero, List.set_cons_succ]
        refine wpAnyG_takeL (i := 3) (v := ?v21) (fuel := 8) (listed' := #[true, true, true, true, false, false, false, false, false, false, false, false]) rfl (by kernel_rfl) (fun _ _ _ h => h) (.inl ⟨by rfl, ?hy21⟩) (by assumption) (by kernel_rfl) ?rest21
        case hy21 => (intro w' hSw; (try dsimp only at hSw); go_simp; try with_reducible rfl)
        try simp only [Act.put, List.setIfInBounds_toArray, List.set_cons_zero, List.set_cons_succ]
        refine wpAnyG_takeL (i := 4) (v := ?v22) (fuel := 7) (listed' := #[true, true, true, true, true, false, false, false, false, false, false, false]) rfl (by kernel_rfl) (fun _ _ _ h => h) (.inl ⟨by rfl, ?hy22⟩) (by assumption) (by kernel_rfl) ?rest22
        case hy22 => (intro w' hSw; (try dsimp only at hSw); go_simp; try with_reducible rfl)
        try simp only [Act.put, List.setIfInBounds_toArray, List.set_cons_zero, List.set_cons_succ]
        refine wpAnyG_takeL (i := 5) (v := ?v23) (fuel := 6) (listed' := #[true, true, true, true, true, true, false, false, false, false, false, false]) rfl (by kernel_rfl) (fun _ _ _ h => h) (.inl ⟨by rfl, ?hy23⟩) (by assumption) (by kernel_rfl) ?rest23
        case hy23 => (intro w' hSw; (try dsimp only at hSw); go_simp; try with_reducible rfl)
        try simp only [Act.put, List.setIfInBounds_toArray, List.set_cons_zero, List.set_cons_succ]
        refine wpAnyG_takeL (i := 6) (v := ?v24) (fuel := 5) (listed' := #[true, true, true, true, true, true, true, false, false, false, false, false]) rfl (by kernel_rfl) (fun _ _ _ h => h) (.inl ⟨by rfl, ?hy24⟩) (by assumption) (by kernel_rfl) ?rest24
        case hy24 => (intro w' hSw; (try dsimp only at hSw); go_simp; try with_reducible rfl)
        try simp only [Act.put, List.setIfInBounds_toArray, List.set_cons_zero, List.set_cons_succ]
        refine wpAnyG_takeL (i := 7) (v := ?v25) (fuel := 4) (listed' := #[true, true, true, true, true, true, true, true, false, false, false, false]) rfl (by kernel_rfl) (fun _ _ _ h => h) (.inl ⟨by rfl, ?hy25⟩) (by assumption) (by kernel_rfl) ?rest25
        case hy25 => (intro w' hSw; (try dsimp only at hSw); go_simp; try with_reducible rfl)
        try simp only [Act.put, List.setIfInBounds_toArray, List.set_cons_zero, List.set_cons_succ]
        refine wpAnyG_takeL (i := 8) (v := ?v26) (fuel := 3) (listed' := #[true, true, true, true, true, true, true, true, true, false, false, false]) rfl (by kernel_rfl) (fun _ _ _ h => h) (.inl ⟨by rfl, ?hy26⟩) (by assumption) (by kernel_rfl) ?rest26
        case hy26 => (intro w' hSw; (try dsimp only at hSw); go_simp; try with_reducible rfl)
        try simp only [Act.put, List.setIfInBounds_toArray, List.set_cons_zero, List.set_cons_succ]
        refine wpAnyG_takeL (i := 9) (v := ?v27) (fuel := 2) (listed' := #[true, true, true, true, true, true, true, true, true, true, false, false]) rfl (by kernel_rfl) (fun _ _ _ h => h) (.inl ⟨by rfl, ?hy27⟩) (by assumption) (by kernel_rfl) ?rest27
        case hy27 => (intro w' hSw; (try dsimp only at hSw); go_simp; try with_reducible rfl)
        try simp only [Act.put, List.setIfInBounds_toArray, List.set_cons_zero, List.set_cons_succ]
        refine wpAnyG_oneL (i := 10) (fuel := 1) (listed' := #[true, true, true, true, true, true, true, true, true, true, true, false]) rfl (by kernel_rfl) (by kernel_rfl) (by rfl) (fun K hK0 => ?_)
        have hK := Lib.hid hK0
        clear hK0
        go_simp
        refine (HAB.out w4 c.S (below_then H1.out H1.out.size H4.out.1) hS2).mono ?_
        rintro e w5 ⟨A5, d5, rfl, hrv5, hab5, hb5⟩
        have hb15 := below_then H4.out.1 H4.out.1.size hb5
        have H5 := Lib.hid (And.intro hrv5 (And.intro hab5 (And.intro hb15 (H4.out.2.belowAll hb5))))
        have hS5 : (fun w' : World => w'.cell? ⟨w.heap.size + 1, 0, none⟩ = some (.int .i64 dd) ∧ w'.cell? ⟨w.heap.size + 1, 1, none⟩ = some (.int .i64 bk) ∧ w'.cell? ⟨w.heap.size + 1, 2, none⟩ = some (.int .i64 pg) ∧ w'.cell? ⟨w.heap.size + 1, 3, none⟩ = some (.int .u8 fl) ∧ w'.cell? ⟨w.heap.size + 1, 4, none⟩ = some (.slice Ab nb db) ∧ w'.cell? ⟨w.heap.size + 1, 5, none⟩ = some (.slice Ah nh dh) ∧ w'.cell? ⟨pb, 0, none⟩ = some (.pointer (some ⟨a, 0, none⟩)) ∧ w'.cell? ⟨pb, 1, none⟩ = some (.pointer (some ⟨r, 0, none⟩)) ∧ w'.cell? ⟨r, 0, none⟩ = some (.int .i64 (c.B : Int)) ∧ w'.cell? ⟨r, 1, none⟩ = some (.int .i64 (c.P : Int)) ∧ w'.cell? ⟨r, 2, none⟩ = some (.int .i64 (c.S : Int))) w5 := HC.out w5 (Tch.of_below hb15)
        clear hrv5 hab5 hb5 hb15
        refine hK.out _ _ (.inl (hS5)) ?_
        clear hK K
        try simp only [Act.put, List.setIfInBounds_toArray, List.set_cons_zero, List.set_cons_succ]
        clear hS0
        have hS0 := hS5
        dsimp only at hS0
        clear hS5
        generalize bsx c.S = ws at *
        obtain ⟨L5, hL5⟩ := HX.out.pc.below H5.out.2.2.1
        have hoff : ∀ ad, A5 = some ad → 0 < ws.length → ¬ F ad.block := fun ad hA h0 hf => by
          rcases H5.out.2.1 ad hA h0 with h5 | h5
          · have := HX.out.fb _ hf
            have := H0.out.b0.size
            omega
          · have := HX.out.pc.lt _ hf
            have := H4.out.1.size
            omega
        have HPR := Lib.hid (program_pc hL5 bk pg A5 ws.length d5 ws rfl H5.out.1 hoff)
        clear hL5 hoff
        refine wpAnyG_oneL (i := 11) (fuel := 0) (listed' := #[true, true, true, true, true, true, true, true, true, true, true, true]) rfl (by kernel_rfl) (by kernel_rfl) (by rfl) (fun K hK0 => ?_)
        have hK := Lib.hid hK0
        clear hK0
        go_simp
        refine HPR.out.mono ?_
        rintro e w6 ⟨rfl, hpc6, ht6⟩
        have H6 := Lib.hid (And.intro hpc6 (And.intro ((Tch.of_below H5.out.2.2.1).then ht6 (fun _ _ h => h)) (H5.out.2.2.2.heap (ht6.block _ H5.out.2.2.2.lt HG2.out))))
        clear hpc6 ht6
        have hS6 : (fun w' : World => w'.cell? ⟨w.heap.size + 1, 0, none⟩ = some (.int .i64 dd) ∧ w'.cell? ⟨w.heap.size + 1, 1, none⟩ = some (.int .i64 bk) ∧ w'.cell? ⟨w.heap.size + 1, 2, none⟩ = some (.int .i64 pg) ∧ w'.cell? ⟨w.heap.size + 1, 3, none⟩ = some (.int .u8 fl) ∧ w'.cell? ⟨w.heap.size + 1, 4, none⟩ = some (.slice Ab nb db) ∧ w'.cell? ⟨w.heap.size + 1, 5, none⟩ = some (.slice Ah nh dh) ∧ w'.cell? ⟨pb, 0, none⟩ = some (.pointer (some ⟨a, 0, none⟩)) ∧ w'.cell? ⟨pb, 1, none⟩ = some (.pointer (some ⟨r, 0, none⟩)) ∧ w'.cell? ⟨r, 0, none⟩ = some (.int .i64 (c.B : Int)) ∧ w'.cell? ⟨r, 1, none⟩ = some (.int .i64 (c.P : Int)) ∧ w'.cell? ⟨r, 2, none⟩ = some (.int .i64 (c.S : Int))) w6 := HC.out w6 H6.out.2.1
        refine hK.out _ _ (.inr (by decide)) ?_
        clear hK K
        refine wpAnyG_done (by kernel_rfl) ?_ _
        clear hS0 hS6
        go_wp2_with fail
        have hcase : bk < 0 ∨ (0 ≤ bk ∧ (c.B : Int) ≤ bk) ∨ (0 ≤ bk ∧ bk < (c.B : Int) ∧ pg < 0) ∨ (0 ≤ bk ∧ bk < (c.B : Int) ∧ 0 ≤ pg ∧ (c.P : Int) ≤ pg) ∨ (0 ≤ bk ∧ bk < (c.B : Int) ∧ 0 ≤ pg ∧ pg < (c.P : Int)) := by omega
        rcases hcase with hcs | hcs | hcs | hcs | hcs
        · have u1 : decide (0 ≤ bk) = false := decide_eq_false (by omega)
          refine wp_region_G (fun w' : World => w'.cell? ⟨w.heap.size + 1, 0, none⟩ = some (.int .i64 dd) ∧ w'.cell? ⟨w.heap.size + 1, 1, none⟩ = some (.int .i64 bk) ∧ w'.cell? ⟨w.heap.size + 1, 2, none⟩ = some (.int .i64 pg) ∧ w'.cell? ⟨w.heap.size + 1, 3, none⟩ = some (.int .u8 fl) ∧ w'.cell? ⟨w.heap.size + 1, 4, none⟩ = some (.slice Ab nb db) ∧ w'.cell? ⟨w.heap.size + 1, 5, none⟩ = some (.slice Ah nh dh) ∧ w'.cell? ⟨pb, 0, none⟩ = some (.pointer (some ⟨a, 0, none⟩)) ∧ w'.cell? ⟨pb, 1, none⟩ = some (.pointer (some ⟨r, 0, none⟩)) ∧ w'.cell? ⟨r, 0, none⟩ = some (.int .i64 (c.B : Int)) ∧ w'.cell? ⟨r, 1, none⟩ = some (.int .i64 (c.P : Int)) ∧ w'.cell? ⟨r, 2, none⟩ = some (.int .i64 (c.S : Int))) 26 27 #[false, false, false, false, false, false, false, false, false, false, false, false, false, false, false, false, false, false, false, false, false, false, false, false, false, false, false] (by kernel_rfl) rfl (by kernel_rfl) ?_
          have hb9 := (Below.refl w6.heap.size w6).drew
          have hS0 : (fun w' : World => w'.cell? ⟨w.heap.size + 1, 0, none⟩ = some (.int .i64 dd) ∧ w'.cell? ⟨w.heap.size + 1, 1, none⟩ = some (.int .i64 bk) ∧ w'.cell? ⟨w.heap.size + 1, 2, none⟩ = some (.int .i64 pg) ∧ w'.cell? ⟨w.heap.size + 1, 3, none⟩ = some (.int .u8 fl) ∧ w'.cell? ⟨w.heap.size + 1, 4, none⟩ = some (.slice Ab nb db) ∧ w'.cell? ⟨w.heap.size + 1, 5, none⟩ = some (.slice Ah nh dh) ∧ w'.cell? ⟨pb, 0, none⟩ = some (.pointer (some ⟨a, 0, none⟩)) ∧ w'.cell? ⟨pb, 1, none⟩ = some (.pointer (some ⟨r, 0, none⟩)) ∧ w'.cell? ⟨r, 0, none⟩ = some (.int .i64 (c.B : Int)) ∧ w'.cell? ⟨r, 1, none⟩ = some (.int .i64 (c.P : Int)) ∧ w'.cell? ⟨r, 2, none⟩ = some (.int .i64 (c.S : Int))) w6.drew := HC.out _ (H6.out.2.1.then (Tch.of_below hb9) (fun _ _ h => h))
          generalize w6.drew = w9 at *
          try dsimp only at hS0
          refine wpAnyG_takeL (i := 0) (v := ?v28) (fuel := 26) (listed' := #[true, false, false, false, false, false, false, false, false, false, false, false, false, false, false, false, false, false, false, false, false, false, false, false, false, false, false]) rfl (by kernel_rfl) (fun _ _ _ h => h) (.inl ⟨by rfl, ?hy28⟩) (by assumption) (by kernel_rfl) ?rest28
          case hy28 => (intro w' hSw; (try dsimp only at hSw); go_simp; try with_reducible rfl)
          try simp only [Act.put, List.setIfInBounds_toArray, List.set_cons_zero, List.set_cons_succ]
          refine wpAnyG_takeL (i := 1) (v := ?v29) (fuel := 25) (listed' := #[true, true, false, false, false, false, false, false, false, false, false, false, false, false, false, false, false, false, false, false, false, false, false, false, false, false, false]) rfl (by kernel_rfl) (fun _ _ _ h => h) (.inl ⟨by rfl, ?hy29⟩) (by assumption) (by kernel_rfl) ?rest29
          case hy29 => (intro w' hSw; (try dsimp only at hSw); go_simp; try with_reducible rfl)
          try simp only [Act.put, List.setIfInBounds_toArray, List.set_cons_zero, List.set_cons_succ]
          refine wpAnyG_takeL (i := 2) (v := ?v30) (fuel := 24) (listed' := #[true, true, true, false, false, false, false, false, false, false, false, false, false, false, false, false, false, false, false, false, false, false, false, false, false, false, false]) rfl (by kernel_rfl) (fun _ _ _ h => h) (.inl ⟨by rfl, ?hy30⟩) (by assumption) (by kernel_rfl) ?rest30
          case hy30 => (intro w' hSw; (try dsimp only at hSw); go_simp; try with_reducible rfl)
          try simp only [Act.put, List.setIfInBounds_toArray, List.set_cons_zero, List.set_cons_succ]
          refine wpAnyG_takeL (i := 3) (v := ?v31) (fuel := 23) (listed' := #[true, true, true, true, false, false, false, false, false, false, false, false, false, false, false, false, false, false, false, false, false, false, false, false, false, false, false]) rfl (by kernel_rfl) (fun _ _ _ h => h) (.inl ⟨by rfl, ?hy31⟩) (by assumption) (by kernel_rfl) ?rest31
          case hy31 => (intro w' hSw; (try dsimp only at hSw); go_simp; try with_reducible rfl)
          try simp only [Act.put, List.setIfInBounds_toArray, List.set_cons_zero, List.set_cons_succ]
          refine wpAnyG_takeL (i := 4) (v := undef) (fuel := 22) (listed' := #[true, true, true, true, true, false, false, false, false, false, false, false, false, false, false, false, false, false, false, false, false, false, false, false, false, false, false]) rfl (by kernel_rfl) (fun _ _ _ h => h) (.inr ⟨by rfl, rfl⟩) (by assumption) (by kernel_rfl) ?rest32
          try simp only [Act.put, List.setIfInBounds_toArray, List.set_cons_zero, List.set_cons_succ]
          refine wpAnyG_takeL (i := 5) (v := undef) (fuel := 21) (listed' := #[true, true, true, true, true, true, false, false, false, false, false, false, false, false, false, false, false, false, false, false, false, false, false, false, false, false, false]) rfl (by kernel_rfl) (fun _ _ _ h => h) (.inr ⟨by rfl, rfl⟩) (by assumption) (by kernel_rfl) ?rest33
          try simp only [Act.put, List.setIfInBounds_toArray, List.set_cons_zero, List.set_cons_succ]
          refine wpAnyG_takeL (i := 6) (v := undef) (fuel := 20) (listed' := #[true, true, true, true, true, true, true, false, false, false, false, false, false, false, false, false, false, false, false, false, false, false, false, false, false, false, false]) rfl (by kernel_rfl) (fun _ _ _ h => h) (.inr ⟨by rfl, rfl⟩) (by assumption) (by kernel_rfl) ?rest34
          try simp only [Act.put, List.setIfInBounds_toArray, List.set_cons_zero, List.set_cons_succ]
          refine wpAnyG_takeL (i := 7) (v := undef) (fuel := 19) (listed' := #[true, true, true, true, true, true, true, true, false, false, false, false, false, false, false, false, false, false, false, false, false, false, false, false, false, false, false]) rfl (by kernel_rfl) (fun _ _ _ h => h) (.inr ⟨by rfl, rfl⟩) (by assumption) (by kernel_rfl) ?rest35
          try simp only [Act.put, List.setIfInBounds_toArray, List.set_cons_zero, List.set_cons_succ]
          refine wpAnyG_takeL (i := 8) (v := undef) (fuel := 18) (listed' := #[true, true, true, true, true, true, true, true, true, false, false, false, false, false, false, false, false, false, false, false, false, false, false, false, false, false, false]) rfl (by kernel_rfl) (fun _ _ _ h => h) (.inr ⟨by rfl, rfl⟩) (by assumption) (by kernel_rfl) ?rest36
          try simp only [Act.put, List.setIfInBounds_toArray, List.set_cons_zero, List.set_cons_succ]
          refine wpAnyG_takeL (i := 9) (v := undef) (fuel := 17) (listed' := #[true, true, true, true, true, true, true, true, true, true, false, false, false, false, false, false, false, false, false, false, false, false, false, false, false, false, false]) rfl (by kernel_rfl) (fun _ _ _ h => h) (.inr ⟨by rfl, rfl⟩) (by assumption) (by kernel_rfl) ?rest37
          try simp only [Act.put, List.setIfInBounds_toArray, List.set_cons_zero, List.set_cons_succ]
          refine wpAnyG_takeL (i := 10) (v := undef) (fuel := 16) (listed' := #[true, true, true, true, true, true, true, true, true, true, true, false, false, false, false, false, false, false, false, false, false, false, false, false, false, false, false]) rfl (by kernel_rfl) (fun _ _ _ h => h) (.inr ⟨by rfl, rfl⟩) (by assumption) (by kernel_rfl) ?rest38
          try simp only [Act.put, List.setIfInBounds_toArray, List.set_cons_zero, List.set_cons_succ]
          refine wpAnyG_takeL (i := 11) (v := undef) (fuel := 15) (listed' := #[true, true, true, true, true, true, true, true, true, true, true, true, false, false, false, false, false, false, false, false, false, false, false, false, false, false, false]) rfl (by kernel_rfl) (fun _ _ _ h => h) (.inr ⟨by rfl, rfl⟩) (by assumption) (by kernel_rfl) ?rest39
          try simp only [Act.put, List.setIfInBounds_toArray, List.set_cons_zero, List.set_cons_succ]
          refine wpAnyG_takeL (i := 12) (v := undef) (fuel := 14) (listed' := #[true, true, true, true, true, true, true, true, true, true, true, true, true, false, false, false, false, false, false, false, false, false, false, false, false, false, false]) rfl (by kernel_rfl) (fun _ _ _ h => h) (.inr ⟨by rfl, rfl⟩) (by assumption) (by kernel_rfl) ?rest40
          try simp only [Act.put, List.setIfInBounds_toArray, List.set_cons_zero, List.set_cons_succ]
          refine wpAnyG_takeL (i := 13) (v := undef) (fuel := 13) (listed' := #[true, true, true, true, true, true, true, true, true, true, true, true, true, true, false, false, false, false, false, false, false, false, false, false, false, false, false]) rfl (by kernel_rfl) (fun _ _ _ h => h) (.inr ⟨by rfl, rfl⟩) (by assumption) (by kernel_rfl) ?rest41
          try simp only [Act.put, List.setIfInBounds_toArray, List.set_cons_zero, List.set_cons_succ]
          refine wpAnyG_takeL (i := 14) (v := undef) (fuel := 12) (listed' := #[true, true, true, true, true, true, true, true, true, true, true, true, true, true, true, false, false, false, false, false, false, false, false, false, false, false, false]) rfl (by kernel_rfl) (fun _ _ _ h => h) (.inr ⟨by rfl, rfl⟩) (by assumption) (by kernel_rfl) ?rest42
          try simp only [Act.put, List.setIfInBounds_toArray, List.set_cons_zero, List.set_cons_succ]
          refine wpAnyG_takeL (i := 15) (v := ?v43) (fuel := 11) (listed' := #[true, true, true, true, true, true, true, true, true, true, true, true, true, true, true, true, false, false, false, false, false, false, false, false, false, false, false]) rfl (by kernel_rfl) (fun _ _ _ h => h) (.inl ⟨by rfl, ?hy43⟩) (by assumption) (by kernel_rfl) ?rest43
          case hy43 => (intro w' hSw; (try dsimp only at hSw); go_simp; try with_reducible rfl)
          try simp only [Act.put, List.setIfInBounds_toArray, List.set_cons_zero, List.set_cons_succ]
          refine wpAnyG_takeL (i := 16) (v := ?v44) (fuel := 10) (listed' := #[true, true, true, true, true, true, true, true, true, true, true, true, true, true, true, true, true, false, false, false, false, false, false, false, false, false, false]) rfl (by kernel_rfl) (fun _ _ _ h => h) (.inl ⟨by rfl, ?hy44⟩) (by assumption) (by kernel_rfl) ?rest44
          case hy44 => (intro w' hSw; (try dsimp only at hSw); go_simp; try with_reducible rfl)
          try simp only [Act.put, List.setIfInBounds_toArray, List.set_cons_zero, List.set_cons_succ]
          refine wpAnyG_takeL (i := 17) (v := undef) (fuel := 9) (listed' := #[true, true, true, true, true, true, true, true, true, true, true, true, true, true, true, true, true, true, false, false, false, false, false, false, false, false, false]) rfl (by kernel_rfl) (fun _ _ _ h => h) (.inr ⟨by rfl, rfl⟩) (by assumption) (by kernel_rfl) ?rest45
          try simp only [Act.put, List.setIfInBounds_toArray, List.set_cons_zero, List.set_cons_succ]
          refine wpAnyG_takeL (i := 18) (v := undef) (fuel := 8) (listed' := #[true, true, true, true, true, true, true, true, true, true, true, true, true, true, true, true, true, true, true, false, false, false, false, false, false, false, false]) rfl (by kernel_rfl) (fun _ _ _ h => h) (.inr ⟨by rfl, rfl⟩) (by assumption) (by kernel_rfl) ?rest46
          try simp only [Act.put, List.setIfInBounds_toArray, List.set_cons_zero, List.set_cons_succ]
          refine wpAnyG_takeL (i := 19) (v := undef) (fuel := 7) (listed' := #[true, true, true, true, true, true, true, true, true, true, true, true, true, true, true, true, true, true, true, true, false, false, false, false, false, false, false]) rfl (by kernel_rfl) (fun _ _ _ h => h) (.inr ⟨by rfl, rfl⟩) (by assumption) (by kernel_rfl) ?rest47
          try simp only [Act.put, List.setIfInBounds_toArray, List.set_cons_zero, List.set_cons_succ]
          refine wpAnyG_takeL (i := 20) (v := ?v48) (fuel := 6) (listed' := #[true, true, true, true, true, true, true, true, true, true, true, true, true, true, true, true, true, true, true, true, true, false, false, false, false, false, false]) rfl (by kernel_rfl) (fun _ _ _ h => h) (.inl ⟨by rfl, ?hy48⟩) (by assumption) (by kernel_rfl) ?rest48
          case hy48 => (intro w' hSw; (try dsimp only at hSw); go_simp; try with_reducible rfl)
          try simp only [Act.put, List.setIfInBounds_toArray, List.set_cons_zero, List.set_cons_succ]
          refine wpAnyG_takeL (i := 21) (v := ?v49) (fuel := 5) (listed' := #[true, true, true, true, true, true, true, true, true, true, true, true, true, true, true, true, true, true, true, true, true, true, false, false, false, false, false]) rfl (by kernel_rfl) (fun _ _ _ h => h) (.inl ⟨by rfl, ?hy49⟩) (by assumption) (by kernel_rfl) ?rest49
          case hy49 => (intro w' hSw; (try dsimp only at hSw); go_simp; try with_reducible rfl)
          try simp only [Act.put, List.setIfInBounds_toArray, List.set_cons_zero, List.set_cons_succ]
          refine wpAnyG_takeL (i := 22) (v := undef) (fuel := 4) (listed' := #[true, true, true, true, true, true, true, true, true, true, true, true, true, true, true, true, true, true, true, true, true, true, true, false, false, false, false]) rfl (by kernel_rfl) (fun _ _ _ h => h) (.inr ⟨by rfl, rfl⟩) (by assumption) (by kernel_rfl) ?rest50
          try simp only [Act.put, List.setIfInBounds_toArray, List.set_cons_zero, List.set_cons_succ]
          refine wpAnyG_takeL (i := 23) (v := undef) (fuel := 3) (listed' := #[true, true, true, true, true, true, true, true, true, true, true, true, true, true, true, true, true, true, true, true, true, true, true, true, false, false, false]) rfl (by kernel_rfl) (fun _ _ _ h => h) (.inr ⟨by rfl, rfl⟩) (by assumption) (by kernel_rfl) ?rest51
          try simp only [Act.put, List.setIfInBounds_toArray, List.set_cons_zero, List.set_cons_succ]
          refine wpAnyG_takeL (i := 24) (v := undef) (fuel := 2) (listed' := #[true, true, true, true, true, true, true, true, true, true, true, true, true, true, true, true, true, true, true, true, true, true, true, true, true, false, false]) rfl (by kernel_rfl) (fun _ _ _ h => h) (.inr ⟨by rfl, rfl⟩) (by assumption) (by kernel_rfl) ?rest52
          try simp only [Act.put, List.setIfInBounds_toArray, List.set_cons_zero, List.set_cons_succ]
          refine wpAnyG_takeL (i := 25) (v := undef) (fuel := 1) (listed' := #[true, true, true, true, true, true, true, true, true, true, true, true, true, true, true, true, true, true, true, true, true, true, true, true, true, true, false]) rfl (by kernel_rfl) (fun _ _ _ h => h) (.inr ⟨by rfl, rfl⟩) (by assumption) (by kernel_rfl) ?rest53
          try simp only [Act.put, List.setIfInBounds_toArray, List.set_cons_zero, List.set_cons_succ]
          refine wpAnyG_oneL (i := 26) (fuel := 0) (listed' := #[true, true, true, true, true, true, true, true, true, true, true, true, true, true, true, true, true, true, true, true, true, true, true, true, true, true, true]) rfl (by kernel_rfl) (by kernel_rfl) (by rfl) (fun K hK0 => ?_)
          have hK := Lib.hid hK0
          clear hK0
          go_simp
          refine hK.out _ _ (.inr (by decide)) ?_
          clear hK K
          refine wpAnyG_done (by kernel_rfl) ?_ _
          clear hS0
          go_wp2_with fail
          go_meet
          case rel => exact ⟨_, 0, 0, rfl, rfl, H6.out.1.below hb9, H6.out.2.1.then (Tch.of_below hb9) (fun _ _ h => h), H6.out.2.2.belowAll hb9, by rw [prog_not ws (by unfold thereS; omega)]; exact Keeps.refl _ (Nat.le_refl _) (Nat.zero_le _)⟩
        · have u1 : decide (0 ≤ bk) = true := decide_eq_true (by omega)
          have u2 : decide (bk < (c.B : Int)) = false := decide_eq_false (by omega)
          refine wp_region_G (fun w' : World => w'.cell? ⟨w.heap.size + 1, 0, none⟩ = some (.int .i64 dd) ∧ w'.cell? ⟨w.heap.size + 1, 1, none⟩ = some (.int .i64 bk) ∧ w'.cell? ⟨w.heap.size + 1, 2, none⟩ = some (.int .i64 pg) ∧ w'.cell? ⟨w.heap.size + 1, 3, none⟩ = some (.int .u8 fl) ∧ w'.cell? ⟨w.heap.size + 1, 4, none⟩ = some (.slice Ab nb db) ∧ w'.cell? ⟨w.heap.size + 1, 5, none⟩ = some (.slice Ah nh dh) ∧ w'.cell? ⟨pb, 0, none⟩ = some (.pointer (some ⟨a, 0, none⟩)) ∧ w'.cell? ⟨pb, 1, none⟩ = some (.pointer (some ⟨r, 0, none⟩)) ∧ w'.cell? ⟨r, 0, none⟩ = some (.int .i64 (c.B : Int)) ∧ w'.cell? ⟨r, 1, none⟩ = some (.int .i64 (c.P : Int)) ∧ w'.cell? ⟨r, 2, none⟩ = some (.int .i64 (c.S : Int))) 26 27 #[false, false, false, false, false, false, false, false, false, false, false, false, false, false, false, false, false, false, false, false, false, false, false, false, false, false, false] (by kernel_rfl) rfl (by kernel_rfl) ?_
          have hb9 := (Below.refl w6.heap.size w6).drew
          have hS0 : (fun w' : World => w'.cell? ⟨w.heap.size + 1, 0, none⟩ = some (.int .i64 dd) ∧ w'.cell? ⟨w.heap.size + 1, 1, none⟩ = some (.int .i64 bk) ∧ w'.cell? ⟨w.heap.size + 1, 2, none⟩ = some (.int .i64 pg) ∧ w'.cell? ⟨w.heap.size + 1, 3, none⟩ = some (.int .u8 fl) ∧ w'.cell? ⟨w.heap.size + 1, 4, none⟩ = some (.slice Ab nb db) ∧ w'.cell? ⟨w.heap.size + 1, 5, none⟩ = some (.slice Ah nh dh) ∧ w'.cell? ⟨pb, 0, none⟩ = some (.pointer (some ⟨a, 0, none⟩)) ∧ w'.cell? ⟨pb, 1, none⟩ = some (.pointer (some ⟨r, 0, none⟩)) ∧ w'.cell? ⟨r, 0, none⟩ = some (.int .i64 (c.B : Int)) ∧ w'.cell? ⟨r, 1, none⟩ = some (.int .i64 (c.P : Int)) ∧ w'.cell? ⟨r, 2, none⟩ = some (.int .i64 (c.S : Int))) w6.drew := HC.out _ (H6.out.2.1.then (Tch.of_below hb9) (fun _ _ h => h))
          generalize w6.drew = w9 at *
          try dsimp only at hS0
          refine wpAnyG_takeL (i := 0) (v := ?v54) (fuel := 26) (listed' := #[true, false, false, false, false, false, false, false, false, false, false, false, false, false, false, false, false, false, false, false, false, false, false, false, false, false, false]) rfl (by kernel_rfl) (fun _ _ _ h => h) (.inl ⟨by rfl, ?hy54⟩) (by assumption) (by kernel_rfl) ?rest54
          case hy54 => (intro w' hSw; (try dsimp only at hSw); go_simp; try with_reducible rfl)
          try simp only [Act.put, List.setIfInBounds_toArray, List.set_cons_zero, List.set_cons_succ]
          refine wpAnyG_takeL (i := 1) (v := ?v55) (fuel := 25) (listed' := #[true, true, false, false, false, false, false, false, false, false, false, false, false, false, false, false, false, false, false, false, false, false, false, false, false, false, false]) rfl (by kernel_rfl) (fun _ _ _ h => h) (.inl ⟨by rfl, ?hy55⟩) (by assumption) (by kernel_rfl) ?rest55
          case hy55 => (intro w' hSw; (try dsimp only at hSw); go_simp; try with_reducible rfl)
          try simp only [Act.put, List.setIfInBounds_toArray, List.set_cons_zero, List.set_cons_succ]
          refine wpAnyG_takeL (i := 2) (v := ?v56) (fuel := 24) (listed' := #[true, true, true, false, false, false, false, false, false, false, false, false, false, false, false, false, false, false, false, false, false, false, false, false, false, false, false]) rfl (by kernel_rfl) (fun _ _ _ h => h) (.inl ⟨by rfl, ?hy56⟩) (by assumption) (by kernel_rfl) ?rest56
          case hy56 => (intro w' hSw; (try dsimp only at hSw); go_simp; try with_reducible rfl)
          try simp only [Act.put, List.setIfInBounds_toArray, List.set_cons_zero, List.set_cons_succ]
          refine wpAnyG_takeL (i := 3) (v := ?v57) (fuel := 23) (listed' := #[true, true, true, true, false, false, false, false, false, false, false, false, false, false, false, false, false, false, false, false, false, false, false, false, false, false, false]) rfl (by kernel_rfl) (fun _ _ _ h => h) (.inl ⟨by rfl, ?hy57⟩) (by assumption) (by kernel_rfl) ?rest57
          case hy57 => (intro w' hSw; (try dsimp only at hSw); go_simp; try with_reducible rfl)
          try simp only [Act.put, List.setIfInBounds_toArray, List.set_cons_zero, List.set_cons_succ]
          refine wpAnyG_takeL (i := 4) (v := ?v58) (fuel := 22) (listed' := #[true, true, true, true, true, false, false, false, false, false, false, false, false, false, false, false, false, false, false, false, false, false, false, false, false, false, false]) rfl (by kernel_rfl) (fun _ _ _ h => h) (.inl ⟨by rfl, ?hy58⟩) (by assumption) (by kernel_rfl) ?rest58
          case hy58 => (intro w' hSw; (try dsimp only at hSw); go_simp; try with_reducible rfl)
          try simp only [Act.put, List.setIfInBounds_toArray, List.set_cons_zero, List.set_cons_succ]
          refine wpAnyG_takeL (i := 5) (v := ?v59) (fuel := 21) (listed' := #[true, true, true, true, true, true, false, false, false, false, false, false, false, false, false, false, false, false, false, false, false, false, false, false, false, false, false]) rfl (by kernel_rfl) (fun _ _ _ h => h) (.inl ⟨by rfl, ?hy59⟩) (by assumption) (by kernel_rfl) ?rest59
          case hy59 => (intro w' hSw; (try dsimp only at hSw); go_simp; try with_reducible rfl)
          try simp only [Act.put, List.setIfInBounds_toArray, List.set_cons_zero, List.set_cons_succ]
          refine wpAnyG_takeL (i := 6) (v := ?v60) (fuel := 20) (listed' := #[true, true, true, true, true, true, true, false, false, false, false, false, false, false, false, false, false, false, false, false, false, false, false, false, false, false, false]) rfl (by kernel_rfl) (fun _ _ _ h => h) (.inl ⟨by rfl, ?hy60⟩) (by assumption) (by kernel_rfl) ?rest60
          case hy60 => (intro w' hSw; (try dsimp only at hSw); go_simp; try with_reducible rfl)
          try simp only [Act.put, List.setIfInBounds_toArray, List.set_cons_zero, List.set_cons_succ]
          refine wpAnyG_takeL (i := 7) (v := ?v61) (fuel := 19) (listed' := #[true, true, true, true, true, true, true, true, false, false, false, false, false, false, false, false, false, false, false, false, false, false, false, false, false, false, false]) rfl (by kernel_rfl) (fun _ _ _ h => h) (.inl ⟨by rfl, ?hy61⟩) (by assumption) (by kernel_rfl) ?rest61
          case hy61 => (intro w' hSw; (try dsimp only at hSw); go_simp; try with_reducible rfl)
          try simp only [Act.put, List.setIfInBounds_toArray, List.set_cons_zero, List.set_cons_succ]
          refine wpAnyG_takeL (i := 8) (v := ?v62) (fuel := 18) (listed' := #[true, true, true, true, true, true, true, true, true, false, false, false, false, false, false, false, false, false, false, false, false, false, false, false, false, false, false]) rfl (by kernel_rfl) (fun _ _ _ h => h) (.inl ⟨by rfl, ?hy62⟩) (by assumption) (by kernel_rfl) ?rest62
          case hy62 => (intro w' hSw; (try dsimp only at hSw); go_simp; try with_reducible rfl)
          try simp only [Act.put, List.setIfInBounds_toArray, List.set_cons_zero, List.set_cons_succ]
          refine wpAnyG_takeL (i := 9) (v := ?v63) (fuel := 17) (listed' := #[true, true, true, true, true, true, true, true, true, true, false, false, false, false, false, false, false, false, false, false, false, false, false, false, false, false, false]) rfl (by kernel_rfl) (fun _ _ _ h => h) (.inl ⟨by rfl, ?hy63⟩) (by assumption) (by kernel_rfl) ?rest63
          case hy63 => (intro w' hSw; (try dsimp only at hSw); go_simp; try with_reducible rfl)
          try simp only [Act.put, List.setIfInBounds_toArray, List.set_cons_zero, List.set_cons_succ]
          refine wpAnyG_takeL (i := 10) (v := ?v64) (fuel := 16) (listed' := #[true, true, true, true, true, true, true, true, true, true, true, false, false, false, false, false, false, false, false, false, false, false, false, false, false, false, false]) rfl (by kernel_rfl) (fun _ _ _ h => h) (.inl ⟨by rfl, ?hy64⟩) (by assumption) (by kernel_rfl) ?rest64
          case hy64 => (intro w' hSw; (try dsimp only at hSw); go_simp; try with_reducible rfl)
          try simp only [Act.put, List.setIfInBounds_toArray, List.set_cons_zero, List.set_cons_succ]
          refine wpAnyG_takeL (i := 11) (v := ?v65) (fuel := 15) (listed' := #[true, true, true, true, true, true, true, true, true, true, true, true, false, false, false, false, false, false, false, false, false, false, false, false, false, false, false]) rfl (by kernel_rfl) (fun _ _ _ h => h) (.inl ⟨by rfl, ?hy65⟩) (by assumption) (by kernel_rfl) ?rest65
          case hy65 => (intro w' hSw; (try dsimp only at hSw); go_simp; try with_reducible rfl)
          try simp only [Act.put, List.setIfInBounds_toArray, List.set_cons_zero, List.set_cons_succ]
          refine wpAnyG_takeL (i := 12) (v := ?v66) (fuel := 14) (listed' := #[true, true, true, true, true, true, true, true, true, true, true, true, true, false, false, false, false, false, false, false, false, false, false, false, false, false, false]) rfl (by kernel_rfl) (fun _ _ _ h => h) (.inl ⟨by rfl, ?hy66⟩) (by assumption) (by kernel_rfl) ?rest66
          case hy66 => (intro w' hSw; (try dsimp only at hSw); go_simp; try with_reducible rfl)
          try simp only [Act.put, List.setIfInBounds_toArray, List.set_cons_zero, List.set_cons_succ]
          refine wpAnyG_takeL (i := 13) (v := ?v67) (fuel := 13) (listed' := #[true, true, true, true, true, true, true, true, true, true, true, true, true, true, false, false, false, false, false, false, false, false, false, false, false, false, false]) rfl (by kernel_rfl) (fun _ _ _ h => h) (.inl ⟨by rfl, ?hy67⟩) (by assumption) (by kernel_rfl) ?rest67
          case hy67 => (intro w' hSw; (try dsimp only at hSw); go_simp; try with_reducible rfl)
          try simp only [Act.put, List.setIfInBounds_toArray, List.set_cons_zero, List.set_cons_succ]
          refine wpAnyG_takeL (i := 14) (v := ?v68) (fuel := 12) (listed' := #[true, true, true, true, true, true, true, true, true, true, true, true, true, true, true, false, false, false, false, false, false, false, false, false, false, false, false]) rfl (by kernel_rfl) (fun _ _ _ h => h) (.inl ⟨by rfl, ?hy68⟩) (by assumption) (by kernel_rfl) ?rest68
          case hy68 => (intro w' hSw; (try dsimp only at hSw); go_simp; try with_reducible rfl)
          try simp only [Act.put, List.setIfInBounds_toArray, List.set_cons_zero, List.set_cons_succ]
          refine wpAnyG_takeL (i := 15) (v := ?v69) (fuel := 11) (listed' := #[true, true, true, true, true, true, true, true, true, true, true, true, true, true, true, true, false, false, false, false, false, false, false, false, false, false, false]) rfl (by kernel_rfl) (fun _ _ _ h => h) (.inl ⟨by rfl, ?hy69⟩) (by assumption) (by kernel_rfl) ?rest69
          case hy69 => (intro w' hSw; (try dsimp only at hSw); go_simp; try with_reducible rfl)
          try simp only [Act.put, List.setIfInBounds_toArray, List.set_cons_zero, List.set_cons_succ]
          refine wpAnyG_takeL (i := 16) (v := ?v70) (fuel := 10) (listed' := #[true, true, true, true, true, true, true, true, true, true, true, true, true, true, true, true, true, false, false, false, false, false, false, false, false, false, false]) rfl (by kernel_rfl) (fun _ _ _ h => h) (.inl ⟨by rfl, ?hy70⟩) (by assumption) (by kernel_rfl) ?rest70
          case hy70 => (intro w' hSw; (try dsimp only at hSw); go_simp; try with_reducible rfl)
          try simp only [Act.put, List.setIfInBounds_toArray, List.set_cons_zero, List.set_cons_succ]
          refine wpAnyG_takeL (i := 17) (v := undef) (fuel := 9) (listed' := #[true, true, true, true, true, true, true, true, true, true, true, true, true, true, true, true, true, true, false, false, false, false, false, false, false, false, false]) rfl (by kernel_rfl) (fun _ _ _ h => h) (.inr ⟨by rfl, rfl⟩) (by assumption) (by kernel_rfl) ?rest71
          try simp only [Act.put, List.setIfInBounds_toArray, List.set_cons_zero, List.set_cons_succ]
          refine wpAnyG_takeL (i := 18) (v := undef) (fuel := 8) (listed' := #[true, true, true, true, true, true, true, true, true, true, true, true, true, true, true, true, true, true, true, false, false, false, false, false, false, false, false]) rfl (by kernel_rfl) (fun _ _ _ h => h) (.inr ⟨by rfl, rfl⟩) (by assumption) (by kernel_rfl) ?rest72
          try simp only [Act.put, List.setIfInBounds_toArray, List.set_cons_zero, List.set_cons_succ]
          refine wpAnyG_takeL (i := 19) (v := undef) (fuel := 7) (listed' := #[true, true, true, true, true, true, true, true, true, true, true, true, true, true, true, true, true, true, true, true, false, false, false, false, false, false, false]) rfl (by kernel_rfl) (fun _ _ _ h => h) (.inr ⟨by rfl, rfl⟩) (by assumption) (by kernel_rfl) ?rest73
          try simp only [Act.put, List.setIfInBounds_toArray, List.set_cons_zero, List.set_cons_succ]
          refine wpAnyG_takeL (i := 20) (v := ?v74) (fuel := 6) (listed' := #[true, true, true, true, true, true, true, true, true, true, true, true, true, true, true, true, true, true, true, true, true, false, false, false, false, false, false]) rfl (by kernel_rfl) (fun _ _ _ h => h) (.inl ⟨by rfl, ?hy74⟩) (by assumption) (by kernel_rfl) ?rest74
          case hy74 => (intro w' hSw; (try dsimp only at hSw); go_simp; try with_reducible rfl)
          try simp only [Act.put, List.setIfInBounds_toArray, List.set_cons_zero, List.set_cons_succ]
          refine wpAnyG_takeL (i := 21) (v := ?v75) (fuel := 5) (listed' := #[true, true, true, true, true, true, true, true, true, true, true, true, true, true, true, true, true, true, true, true, true, true, false, false, false, false, false]) rfl (by kernel_rfl) (fun _ _ _ h => h) (.inl ⟨by rfl, ?hy75⟩) (by assumption) (by kernel_rfl) ?rest75
          case hy75 => (intro w' hSw; (try dsimp only at hSw); go_simp; try with_reducible rfl)
          try simp only [Act.put, List.setIfInBounds_toArray, List.set_cons_zero, List.set_cons_succ]
          refine wpAnyG_takeL (i := 22) (v := undef) (fuel := 4) (listed' := #[true, true, true, true, true, true, true, true, true, true, true, true, true, true, true, true, true, true, true, true, true, true, true, false, false, false, false]) rfl (by kernel_rfl) (fun _ _ _ h => h) (.inr ⟨by rfl, rfl⟩) (by assumption) (by kernel_rfl) ?rest76
          try simp only [Act.put, List.setIfInBounds_toArray, List.set_cons_zero, List.set_cons_succ]
          refine wpAnyG_takeL (i := 23) (v := undef) (fuel := 3) (listed' := #[true, true, true, true, true, true, true, true, true, true, true, true, true, true, true, true, true, true, true, true, true, true, true, true, false, false, false]) rfl (by kernel_rfl) (fun _ _ _ h => h) (.inr ⟨by rfl, rfl⟩) (by assumption) (by kernel_rfl) ?rest77
          try simp only [Act.put, List.setIfInBounds_toArray, List.set_cons_zero, List.set_cons_succ]
          refine wpAnyG_takeL (i := 24) (v := undef) (fuel := 2) (listed' := #[true, true, true, true, true, true, true, true, true, true, true, true, true, true, true, true, true, true, true, true, true, true, true, true, true, false, false]) rfl (by kernel_rfl) (fun _ _ _ h => h) (.inr ⟨by rfl, rfl⟩) (by assumption) (by kernel_rfl) ?rest78
          try simp only [Act.put, List.setIfInBounds_toArray, List.set_cons_zero, List.set_cons_succ]
          refine wpAnyG_takeL (i := 25) (v := undef) (fuel := 1) (listed' := #[true, true, true, true, true, true, true, true, true, true, true, true, true, true, true, true, true, true, true, true, true, true, true, true, true, true, false]) rfl (by kernel_rfl) (fun _ _ _ h => h) (.inr ⟨by rfl, rfl⟩) (by assumption) (by kernel_rfl) ?rest79
          try simp only [Act.put, List.setIfInBounds_toArray, List.set_cons_zero, List.set_cons_succ]
          refine wpAnyG_oneL (i := 26) (fuel := 0) (listed' := #[true, true, true, true, true, true, true, true, true, true, true, true, true, true, true, true, true, true, true, true, true, true, true, true, true, true, true]) rfl (by kernel_rfl) (by kernel_rfl) (by rfl) (fun K hK0 => ?_)
          have hK := Lib.hid hK0
          clear hK0
          go_simp
          refine hK.out _ _ (.inr (by decide)) ?_
          clear hK K
          refine wpAnyG_done (by kernel_rfl) ?_ _
          clear hS0
          go_wp2_with fail
          go_meet
          case rel => exact ⟨_, 0, 0, rfl, rfl, H6.out.1.below hb9, H6.out.2.1.then (Tch.of_below hb9) (fun _ _ h => h), H6.out.2.2.belowAll hb9, by rw [prog_not ws (by unfold thereS; omega)]; exact Keeps.refl _ (Nat.le_refl _) (Nat.zero_le _)⟩
        · have u1 : decide (0 ≤ bk) = true := decide_eq_true (by omega)
          have u2 : decide (bk < (c.B : Int)) = true := decide_eq_true (by omega)
          have u3 : decide (0 ≤ pg) = false := decide_eq_false (by omega)
          refine wp_region_G (fun w' : World => w'.cell? ⟨w.heap.size + 1, 0, none⟩ = some (.int .i64 dd) ∧ w'.cell? ⟨w.heap.size + 1, 1, none⟩ = some (.int .i64 bk) ∧ w'.cell? ⟨w.heap.size + 1, 2, none⟩ = some (.int .i64 pg) ∧ w'.cell? ⟨w.heap.size + 1, 3, none⟩ = some (.int .u8 fl) ∧ w'.cell? ⟨w.heap.size + 1, 4, none⟩ = some (.slice Ab nb db) ∧ w'.cell? ⟨w.heap.size + 1, 5, none⟩ = some (.slice Ah nh dh) ∧ w'.cell? ⟨pb, 0, none⟩ = some (.pointer (some ⟨a, 0, none⟩)) ∧ w'.cell? ⟨pb, 1, none⟩ = some (.pointer (some ⟨r, 0, none⟩)) ∧ w'.cell? ⟨r, 0, none⟩ = some (.int .i64 (c.B : Int)) ∧ w'.cell? ⟨r, 1, none⟩ = some (.int .i64 (c.P : Int)) ∧ w'.cell? ⟨r, 2, none⟩ = some (.int .i64 (c.S : Int))) 26 27 #[false, false, false, false, false, false, false, false, false, false, false, false, false, false, false, false, false, false, false, false, false, false, false, false, false, false, false] (by kernel_rfl) rfl (by kernel_rfl) ?_
          have hb9 := (Below.refl w6.heap.size w6).drew
          have hS0 : (fun w' : World => w'.cell? ⟨w.heap.size + 1, 0, none⟩ = some (.int .i64 dd) ∧ w'.cell? ⟨w.heap.size + 1, 1, none⟩ = some (.int .i64 bk) ∧ w'.cell? ⟨w.heap.size + 1, 2, none⟩ = some (.int .i64 pg) ∧ w'.cell? ⟨w.heap.size + 1, 3, none⟩ = some (.int .u8 fl) ∧ w'.cell? ⟨w.heap.size + 1, 4, none⟩ = some (.slice Ab nb db) ∧ w'.cell? ⟨w.heap.size + 1, 5, none⟩ = some (.slice Ah nh dh) ∧ w'.cell? ⟨pb, 0, none⟩ = some (.pointer (some ⟨a, 0, none⟩)) ∧ w'.cell? ⟨pb, 1, none⟩ = some (.pointer (some ⟨r, 0, none⟩)) ∧ w'.cell? ⟨r, 0, none⟩ = some (.int .i64 (c.B : Int)) ∧ w'.cell? ⟨r, 1, none⟩ = some (.int .i64 (c.P : Int)) ∧ w'.cell? ⟨r, 2, none⟩ = some (.int .i64 (c.S : Int))) w6.drew := HC.out _ (H6.out.2.1.then (Tch.of_below hb9) (fun _ _ h => h))
          generalize w6.drew = w9 at *
          try dsimp only at hS0
          refine wpAnyG_takeL (i := 0) (v := ?v80) (fuel := 26) (listed' := #[true, false, false, false, false, false, false, false, false, false, false, false, false, false, false, false, false, false, false, false, false, false, false, false, false, false, false]) rfl (by kernel_rfl) (fun _ _ _ h => h) (.inl ⟨by rfl, ?hy80⟩) (by assumption) (by kernel_rfl) ?rest80
          case hy80 => (intro w' hSw; (try dsimp only at hSw); go_simp; try with_reducible rfl)
          try simp only [Act.put, List.setIfInBounds_toArray, List.set_cons_zero, List.set_cons_succ]
          refine wpAnyG_takeL (i := 1) (v := ?v81) (fuel := 25) (listed' := #[true, true, false, false, false, false, false, false, false, false, false, false, false, false, false, false, false, false, false, false, false, false, false, false, false, false, false]) rfl (by kernel_rfl) (fun _ _ _ h => h) (.inl ⟨by rfl, ?hy81⟩) (by assumption) (by kernel_rfl) ?rest81
          case hy81 => (intro w' hSw; (try dsimp only at hSw); go_simp; try with_reducible rfl)
          try simp only [Act.put, List.setIfInBounds_toArray, List.set_cons_zero, List.set_cons_succ]
          refine wpAnyG_takeL (i := 2) (v := ?v82) (fuel := 24) (listed' := #[true, true, true, false, false, false, false, false, false, false, false, false, false, false, false, false, false, false, false, false, false, false, false, false, false, false, false]) rfl (by kernel_rfl) (fun _ _ _ h => h) (.inl ⟨by rfl, ?hy82⟩) (by assumption) (by kernel_rfl) ?rest82
          case hy82 => (intro w' hSw; (try dsimp only at hSw); go_simp; try with_reducible rfl)
          try simp only [Act.put, List.setIfInBounds_toArray, List.set_cons_zero, List.set_cons_succ]
          refine wpAnyG_takeL (i := 3) (v := ?v83) (fuel := 23) (listed' := #[true, true, true, true, false, false, false, false, false, false, false, false, false, false, false, false, false, false, false, false, false, false, false, false, false, false, false]) rfl (by kernel_rfl) (fun _ _ _ h => h) (.inl ⟨by rfl, ?hy83⟩) (by assumption) (by kernel_rfl) ?rest83
          case hy83 => (intro w' hSw; (try dsimp only at hSw); go_simp; try with_reducible rfl)
          try simp only [Act.put, List.setIfInBounds_toArray, List.set_cons_zero, List.set_cons_succ]
          refine wpAnyG_takeL (i := 4) (v := ?v84) (fuel := 22) (listed' := #[true, true, true, true, true, false, false, false, false, false, false, false, false, false, false, false, false, false, false, false, false, false, false, false, false, false, false]) rfl (by kernel_rfl) (fun _ _ _ h => h) (.inl ⟨by rfl, ?hy84⟩) (by assumption) (by kernel_rfl) ?rest84
          case hy84 => (intro w' hSw; (try dsimp only at hSw); go_simp; try with_reducible rfl)
          try simp only [Act.put, List.setIfInBounds_toArray, List.set_cons_zero, List.set_cons_succ]
          refine wpAnyG_takeL (i := 5) (v := ?v85) (fuel := 21) (listed' := #[true, true, true, true, true, true, false, false, false, false, false, false, false, false, false, false, false, false, false, false, false, false, false, false, false, false, false]) rfl (by kernel_rfl) (fun _ _ _ h => h) (.inl ⟨by rfl, ?hy85⟩) (by assumption) (by kernel_rfl) ?rest85
          case hy85 => (intro w' hSw; (try dsimp only at hSw); go_simp; try with_reducible rfl)
          try simp only [Act.put, List.setIfInBounds_toArray, List.set_cons_zero, List.set_cons_succ]
          refine wpAnyG_takeL (i := 6) (v := ?v86) (fuel := 20) (listed' := #[true, true, true, true, true, true, true, false, false, false, false, false, false, false, false, false, false, false, false, false, false, false, false, false, false, false, false]) rfl (by kernel_rfl) (fun _ _ _ h => h) (.inl ⟨by rfl, ?hy86⟩) (by assumption) (by kernel_rfl) ?rest86
          case hy86 => (intro w' hSw; (try dsimp only at hSw); go_simp; try with_reducible rfl)
          try simp only [Act.put, List.setIfInBounds_toArray, List.set_cons_zero, List.set_cons_succ]
          refine wpAnyG_takeL (i := 7) (v := ?v87) (fuel := 19) (listed' := #[true, true, true, true, true, true, true, true, false, false, false, false, false, false, false, false, false, false, false, false, false, false, false, false, false, false, false]) rfl (by kernel_rfl) (fun _ _ _ h => h) (.inl ⟨by rfl, ?hy87⟩) (by assumption) (by kernel_rfl) ?rest87
          case hy87 => (intro w' hSw; (try dsimp only at hSw); go_simp; try with_reducible rfl)
          try simp only [Act.put, List.setIfInBounds_toArray, List.set_cons_zero, List.set_cons_succ]
          refine wpAnyG_takeL (i := 8) (v := ?v88) (fuel := 18) (listed' := #[true, true, true, true, true, true, true, true, true, false, false, false, false, false, false, false, false, false, false, false, false, false, false, false, false, false, false]) rfl (by kernel_rfl) (fun _ _ _ h => h) (.inl ⟨by rfl, ?hy88⟩) (by assumption) (by kernel_rfl) ?rest88
          case hy88 => (intro w' hSw; (try dsimp only at hSw); go_simp; try with_reducible rfl)
          try simp only [Act.put, List.setIfInBounds_toArray, List.set_cons_zero, List.set_cons_succ]
          refine wpAnyG_takeL (i := 9) (v := ?v89) (fuel := 17) (listed' := #[true, true, true, true, true, true, true, true, true, true, false, false, false, false, false, false, false, false, false, false, false, false, false, false, false, false, false]) rfl (by kernel_rfl) (fun _ _ _ h => h) (.inl ⟨by rfl, ?hy89⟩) (by assumption) (by kernel_rfl) ?rest89
          case hy89 => (intro w' hSw; (try dsimp only at hSw); go_simp; try with_reducible rfl)
          try simp only [Act.put, List.setIfInBounds_toArray, List.set_cons_zero, List.set_cons_succ]
          refine wpAnyG_takeL (i := 10) (v := ?v90) (fuel := 16) (listed' := #[true, true, true, true, true, true, true, true, true, true, true, false, false, false, false, false, false, false, false, false, false, false, false, false, false, false, false]) rfl (by kernel_rfl) (fun _ _ _ h => h) (.inl ⟨by rfl, ?hy90⟩) (by assumption) (by kernel_rfl) ?rest90
          case hy90 => (intro w' hSw; (try dsimp only at hSw); go_simp; try with_reducible rfl)
          try simp only [Act.put, List.setIfInBounds_toArray, List.set_cons_zero, List.set_cons_succ]
          refine wpAnyG_takeL (i := 11) (v := ?v91) (fuel := 15) (listed' := #[true, true, true, true, true, true, true, true, true, true, true, true, false, false, false, false, false, false, false, false, false, false, false, false, false, false, false]) rfl (by kernel_rfl) (fun _ _ _ h => h) (.inl ⟨by rfl, ?hy91⟩) (by assumption) (by kernel_rfl) ?rest91
          case hy91 => (intro w' hSw; (try dsimp only at hSw); go_simp; try with_reducible rfl)
          try simp only [Act.put, List.setIfInBounds_toArray, List.set_cons_zero, List.set_cons_succ]
          refine wpAnyG_takeL (i := 12) (v := ?v92) (fuel := 14) (listed' := #[true, true, true, true, true, true, true, true, true, true, true, true, true, false, false, false, false, false, false, false, false, false, false, false, false, false, false]) rfl (by kernel_rfl) (fun _ _ _ h => h) (.inl ⟨by rfl, ?hy92⟩) (by assumption) (by kernel_rfl) ?rest92
          case hy92 => (intro w' hSw; (try dsimp only at hSw); go_simp; try with_reducible rfl)
          try simp only [Act.put, List.setIfInBounds_toArray, List.set_cons_zero, List.set_cons_succ]
          refine wpAnyG_takeL (i := 13) (v := ?v93) (fuel := 13) (listed' := #[true, true, true, true, true, true, true, true, true, true, true, true, true, true, false, false, false, false, false, false, false, false, false, false, false, false, false]) rfl (by kernel_rfl) (fun _ _ _ h => h) (.inl ⟨by rfl, ?hy93⟩) (by assumption) (by kernel_rfl) ?rest93
          case hy93 => (intro w' hSw; (try dsimp only at hSw); go_simp; try with_reducible rfl)
          try simp only [Act.put, List.setIfInBounds_toArray, List.set_cons_zero, List.set_cons_succ]
          refine wpAnyG_takeL (i := 14) (v := ?v94) (fuel := 12) (listed' := #[true, true, true, true, true, true, true, true, true, true, true, true, true, true, true, false, false, false, false, false, false, false, false, false, false, false, false]) rfl (by kernel_rfl) (fun _ _ _ h => h) (.inl ⟨by rfl, ?hy94⟩) (by assumption) (by kernel_rfl) ?rest94
          case hy94 => (intro w' hSw; (try dsimp only at hSw); go_simp; try with_reducible rfl)
          try simp only [Act.put, List.setIfInBounds_toArray, List.set_cons_zero, List.set_cons_succ]
          refine wpAnyG_takeL (i := 15) (v := ?v95) (fuel := 11) (listed' := #[true, true, true, true, true, true, true, true, true, true, true, true, true, true, true, true, false, false, false, false, false, false, false, false, false, false, false]) rfl (by kernel_rfl) (fun _ _ _ h => h) (.inl ⟨by rfl, ?hy95⟩) (by assumption) (by kernel_rfl) ?rest95
          case hy95 => (intro w' hSw; (try dsimp only at hSw); go_simp; try with_reducible rfl)
          try simp only [Act.put, List.setIfInBounds_toArray, List.set_cons_zero, List.set_cons_succ]
          refine wpAnyG_takeL (i := 16) (v := ?v96) (fuel := 10) (listed' := #[true, true, true, true, true, true, true, true, true, true, true, true, true, true, true, true, true, false, false, false, false, false, false, false, false, false, false]) rfl (by kernel_rfl) (fun _ _ _ h => h) (.inl ⟨by rfl, ?hy96⟩) (by assumption) (by kernel_rfl) ?rest96
          case hy96 => (intro w' hSw; (try dsimp only at hSw); go_simp; try with_reducible rfl)
          try simp only [Act.put, List.setIfInBounds_toArray, List.set_cons_zero, List.set_cons_succ]
          refine wpAnyG_takeL (i := 17) (v := ?v97) (fuel := 9) (listed' := #[true, true, true, true, true, true, true, true, true, true, true, true, true, true, true, true, true, true, false, false, false, false, false, false, false, false, false]) rfl (by kernel_rfl) (fun _ _ _ h => h) (.inl ⟨by rfl, ?hy97⟩) (by assumption) (by kernel_rfl) ?rest97
          case hy97 => (intro w' hSw; (try dsimp only at hSw); go_simp; try with_reducible rfl)
          try simp only [Act.put, List.setIfInBounds_toArray, List.set_cons_zero, List.set_cons_succ]
          refine wpAnyG_takeL (i := 18) (v := ?v98) (fuel := 8) (listed' := #[true, true, true, true, true, true, true, true, true, true, true, true, true, true, true, true, true, true, true, false, false, false, false, false, false, false, false]) rfl (by kernel_rfl) (fun _ _ _ h => h) (.inl ⟨by rfl, ?hy98⟩) (by assumption) (by kernel_rfl) ?rest98
          case hy98 => (intro w' hSw; (try dsimp only at hSw); go_simp; try with_reducible rfl)
          try simp only [Act.put, List.setIfInBounds_toArray, List.set_cons_zero, List.set_cons_succ]
          refine wpAnyG_takeL (i := 19) (v := ?v99) (fuel := 7) (listed' := #[true, true, true, true, true, true, true, true, true, true, true, true, true, true, true, true, true, true, true, true, false, false, false, false, false, false, false]) rfl (by kernel_rfl) (fun _ _ _ h => h) (.inl ⟨by rfl, ?hy99⟩) (by assumption) (by kernel_rfl) ?rest99
          case hy99 => (intro w' hSw; (try dsimp only at hSw); go_simp; try with_reducible rfl)
          try simp only [Act.put, List.setIfInBounds_toArray, List.set_cons_zero, List.set_cons_succ]
          refine wpAnyG_takeL (i := 20) (v := ?v100) (fuel := 6) (listed' := #[true, true, true, true, true, true, true, true, true, true, true, true, true, true, true, true, true, true, true, true, true, false, false, false, false, false, false]) rfl (by kernel_rfl) (fun _ _ _ h => h) (.inl ⟨by rfl, ?hy100⟩) (by assumption) (by kernel_rfl) ?rest100
          case hy100 => (intro w' hSw; (try dsimp only at hSw); go_simp; try with_reducible rfl)
          try simp only [Act.put, List.setIfInBounds_toArray, List.set_cons_zero, List.set_cons_succ]
          refine wpAnyG_takeL (i := 21) (v := ?v101) (fuel := 5) (listed' := #[true, true, true, true, true, true, true, true, true, true, true, true, true, true, true, true, true, true, true, true, true, true, false, false, false, false, false]) rfl (by kernel_rfl) (fun _ _ _ h => h) (.inl ⟨by rfl, ?hy101⟩) (by assumption) (by kernel_rfl) ?rest101
          case hy101 => (intro w' hSw; (try dsimp only at hSw); go_simp; try with_reducible rfl)
          try simp only [Act.put, List.setIfInBounds_toArray, List.set_cons_zero, List.set_cons_succ]
          refine wpAnyG_takeL (i := 22) (v := undef) (fuel := 4) (listed' := #[true, true, true, true, true, true, true, true, true, true, true, true, true, true, true, true, true, true, true, true, true, true, true, false, false, false, false]) rfl (by kernel_rfl) (fun _ _ _ h => h) (.inr ⟨by rfl, rfl⟩) (by assumption) (by kernel_rfl) ?rest102
          try simp only [Act.put, List.setIfInBounds_toArray, List.set_cons_zero, List.set_cons_succ]
          refine wpAnyG_takeL (i := 23) (v := undef) (fuel := 3) (listed' := #[true, true, true, true, true, true, true, true, true, true, true, true, true, true, true, true, true, true, true, true, true, true, true, true, false, false, false]) rfl (by kernel_rfl) (fun _ _ _ h => h) (.inr ⟨by rfl, rfl⟩) (by assumption) (by kernel_rfl) ?rest103
          try simp only [Act.put, List.setIfInBounds_toArray, List.set_cons_zero, List.set_cons_succ]
          refine wpAnyG_takeL (i := 24) (v := undef) (fuel := 2) (listed' := #[true, true, true, true, true, true, true, true, true, true, true, true, true, true, true, true, true, true, true, true, true, true, true, true, true, false, false]) rfl (by kernel_rfl) (fun _ _ _ h => h) (.inr ⟨by rfl, rfl⟩) (by assumption) (by kernel_rfl) ?rest104
          try simp only [Act.put, List.setIfInBounds_toArray, List.set_cons_zero, List.set_cons_succ]
          refine wpAnyG_takeL (i := 25) (v := undef) (fuel := 1) (listed' := #[true, true, true, true, true, true, true, true, true, true, true, true, true, true, true, true, true, true, true, true, true, true, true, true, true, true, false]) rfl (by kernel_rfl) (fun _ _ _ h => h) (.inr ⟨by rfl, rfl⟩) (by assumption) (by kernel_rfl) ?rest105
          try simp only [Act.put, List.setIfInBounds_toArray, List.set_cons_zero, List.set_cons_succ]
          refine wpAnyG_oneL (i := 26) (fuel := 0) (listed' := #[true, true, true, true, true, true, true, true, true, true, true, true, true, true, true, true, true, true, true, true, true, true, true, true, true, true, true]) rfl (by kernel_rfl) (by kernel_rfl) (by rfl) (fun K hK0 => ?_)
          have hK := Lib.hid hK0
          clear hK0
          go_simp
          refine hK.out _ _ (.inr (by decide)) ?_
          clear hK K
          refine wpAnyG_done (by kernel_rfl) ?_ _
          clear hS0
          go_wp2_with fail
          go_meet
          case rel => exact ⟨_, 0, 0, rfl, rfl, H6.out.1.below hb9, H6.out.2.1.then (Tch.of_below hb9) (fun _ _ h => h), H6.out.2.2.belowAll hb9, by rw [prog_not ws (by unfold thereS; omega)]; exact Keeps.refl _ (Nat.le_refl _) (Nat.zero_le _)⟩
        · have u1 : decide (0 ≤ bk) = true := decide_eq_true (by omega)
          have u2 : decide (bk < (c.B : Int)) = true := decide_eq_true (by omega)
          have u3 : decide (0 ≤ pg) = true := decide_eq_true (by omega)
          have u4 : decide (pg < (c.P : Int)) = false := decide_eq_false (by omega)
          refine wp_region_G (fun w' : World => w'.cell? ⟨w.heap.size + 1, 0, none⟩ = some (.int .i64 dd) ∧ w'.cell? ⟨w.heap.size + 1, 1, none⟩ = some (.int .i64 bk) ∧ w'.cell? ⟨w.heap.size + 1, 2, none⟩ = some (.int .i64 pg) ∧ w'.cell? ⟨w.heap.size + 1, 3, none⟩ = some (.int .u8 fl) ∧ w'.cell? ⟨w.heap.size + 1, 4, none⟩ = some (.slice Ab nb db) ∧ w'.cell? ⟨w.heap.size + 1, 5, none⟩ = some (.slice Ah nh dh) ∧ w'.cell? ⟨pb, 0, none⟩ = some (.pointer (some ⟨a, 0, none⟩)) ∧ w'.cell? ⟨pb, 1, none⟩ = some (.pointer (some ⟨r, 0, none⟩)) ∧ w'.cell? ⟨r, 0, none⟩ = some (.int .i64 (c.B : Int)) ∧ w'.cell? ⟨r, 1, none⟩ = some (.int .i64 (c.P : Int)) ∧ w'.cell? ⟨r, 2, none⟩ = some (.int .i64 (c.S : Int))) 26 27 #[false, false, false, false, false, false, false, false, false, false, false, false, false, false, false, false, false, false, false, false, false, false, false, false, false, false, false] (by kernel_rfl) rfl (by kernel_rfl) ?_
          have hb9 := (Below.refl w6.heap.size w6).drew
          have hS0 : (fun w' : World => w'.cell? ⟨w.heap.size + 1, 0, none⟩ = some (.int .i64 dd) ∧ w'.cell? ⟨w.heap.size + 1, 1, none⟩ = some (.int .i64 bk) ∧ w'.cell? ⟨w.heap.size + 1, 2, none⟩ = some (.int .i64 pg) ∧ w'.cell? ⟨w.heap.size + 1, 3, none⟩ = some (.int .u8 fl) ∧ w'.cell? ⟨w.heap.size + 1, 4, none⟩ = some (.slice Ab nb db) ∧ w'.cell? ⟨w.heap.size + 1, 5, none⟩ = some (.slice Ah nh dh) ∧ w'.cell? ⟨pb, 0, none⟩ = some (.pointer (some ⟨a, 0, none⟩)) ∧ w'.cell? ⟨pb, 1, none⟩ = some (.pointer (some ⟨r, 0, none⟩)) ∧ w'.cell? ⟨r, 0, none⟩ = some (.int .i64 (c.B : Int)) ∧ w'.cell? ⟨r, 1, none⟩ = some (.int .i64 (c.P : Int)) ∧ w'.cell? ⟨r, 2, none⟩ = some (.int .i64 (c.S : Int))) w6.drew := HC.out _ (H6.out.2.1.then (Tch.of_below hb9) (fun _ _ h => h))
          generalize w6.drew = w9 at *
          try dsimp only at hS0
          refine wpAnyG_takeL (i := 0) (v := ?v106) (fuel := 26) (listed' := #[true, false, false, false, false, false, false, false, false, false, false, false, false, false, false, false, false, false, false, false, false, false, false, false, false, false, false]) rfl (by kernel_rfl) (fun _ _ _ h => h) (.inl ⟨by rfl, ?hy106⟩) (by assumption) (by kernel_rfl) ?rest106
          case hy106 => (intro w' hSw; (try dsimp only at hSw); go_simp; try with_reducible rfl)
          try simp only [Act.put, List.setIfInBounds_toArray, List.set_cons_zero, List.set_cons_succ]
          refine wpAnyG_takeL (i := 1) (v := ?v107) (fuel := 25) (listed' := #[true, true, false, false, false, false, false, false, false, false, false, false, false, false, false, false, false, false, false, false, false, false, false, false, false, false, false]) rfl (by kernel_rfl) (fun _ _ _ h => h) (.inl ⟨by rfl, ?hy107⟩) (by assumption) (by kernel_rfl) ?rest107
          case hy107 => (intro w' hSw; (try dsimp only at hSw); go_simp; try with_reducible rfl)
          try simp only [Act.put, List.setIfInBounds_toArray, List.set_cons_zero, List.set_cons_succ]
          refine wpAnyG_takeL (i := 2) (v := ?v108) (fuel := 24) (listed' := #[true, true, true, false, false, false, false, false, false, false, false, false, false, false, false, false, false, false, false, false, false, false, false, false, false, false, false]) rfl (by kernel_rfl) (fun _ _ _ h => h) (.inl ⟨by rfl, ?hy108⟩) (by assumption) (by kernel_rfl) ?rest108
          case hy108 => (intro w' hSw; (try dsimp only at hSw); go_simp; try with_reducible rfl)
          try simp only [Act.put, List.setIfInBounds_toArray, List.set_cons_zero, List.set_cons_succ]
          refine wpAnyG_takeL (i := 3) (v := ?v109) (fuel := 23) (listed' := #[true, true, true, true, false, false, false, false, false, false, false, false, false, false, false, false, false, false, false, false, false, false, false, false, false, false, false]) rfl (by kernel_rfl) (fun _ _ _ h => h) (.inl ⟨by rfl, ?hy109⟩) (by assumption) (by kernel_rfl) ?rest109
          case hy109 => (intro w' hSw; (try dsimp only at hSw); go_simp; try with_reducible rfl)
          try simp only [Act.put, List.setIfInBounds_toArray, List.set_cons_zero, List.set_cons_succ]
          refine wpAnyG_takeL (i := 4) (v := ?v110) (fuel := 22) (listed' := #[true, true, true, true, true, false, false, false, false, false, false, false, false, false, false, false, false, false, false, false, false, false, false, false, false, false, false]) rfl (by kernel_rfl) (fun _ _ _ h => h) (.inl ⟨by rfl, ?hy110⟩) (by assumption) (by kernel_rfl) ?rest110
          case hy110 => (intro w' hSw; (try dsimp only at hSw); go_simp; try with_reducible rfl)
          try simp only [Act.put, List.setIfInBounds_toArray, List.set_cons_zero, List.set_cons_succ]
          refine wpAnyG_takeL (i := 5) (v := ?v111) (fuel := 21) (listed' := #[true, true, true, true, true, true, false, false, false, false, false, false, false, false, false, false, false, false, false, false, false, false, false, false, false, false, false]) rfl (by kernel_rfl) (fun _ _ _ h => h) (.inl ⟨by rfl, ?hy111⟩) (by assumption) (by kernel_rfl) ?rest111
          case hy111 => (intro w' hSw; (try dsimp only at hSw); go_simp; try with_reducible rfl)
          try simp only [Act.put, List.setIfInBounds_toArray, List.set_cons_zero, List.set_cons_succ]
          refine wpAnyG_takeL (i := 6) (v := ?v112) (fuel := 20) (listed' := #[true, true, true, true, true, true, true, false, false, false, false, false, false, false, false, false, false, false, false, false, false, false, false, false, false, false, false]) rfl (by kernel_rfl) (fun _ _ _ h => h) (.inl ⟨by rfl, ?hy112⟩) (by assumption) (by kernel_rfl) ?rest112
          case hy112 => (intro w' hSw; (try dsimp only at hSw); go_simp; try with_reducible rfl)
          try simp only [Act.put, List.setIfInBounds_toArray, List.set_cons_zero, List.set_cons_succ]
          refine wpAnyG_takeL (i := 7) (v := ?v113) (fuel := 19) (listed' := #[true, true, true, true, true, true, true, true, false, false, false, false, false, false, false, false, false, false, false, false, false, false, false, false, false, false, false]) rfl (by kernel_rfl) (fun _ _ _ h => h) (.inl ⟨by rfl, ?hy113⟩) (by assumption) (by kernel_rfl) ?rest113
          case hy113 => (intro w' hSw; (try dsimp only at hSw); go_simp; try with_reducible rfl)
          try simp only [Act.put, List.setIfInBounds_toArray, List.set_cons_zero, List.set_cons_succ]
          refine wpAnyG_takeL (i := 8) (v := ?v114) (fuel := 18) (listed' := #[true, true, true, true, true, true, true, true, true, false, false, false, false, false, false, false, false, false, false, false, false, false, false, false, false, false, false]) rfl (by kernel_rfl) (fun _ _ _ h => h) (.inl ⟨by rfl, ?hy114⟩) (by assumption) (by kernel_rfl) ?rest114
          case hy114 => (intro w' hSw; (try dsimp only at hSw); go_simp; try with_reducible rfl)
          try simp only [Act.put, List.setIfInBounds_toArray, List.set_cons_zero, List.set_cons_succ]
          refine wpAnyG_takeL (i := 9) (v := ?v115) (fuel := 17) (listed' := #[true, true, true, true, true, true, true, true, true, true, false, false, false, false, false, false, false, false, false, false, false, false, false, false, false, false, false]) rfl (by kernel_rfl) (fun _ _ _ h => h) (.inl ⟨by rfl, ?hy115⟩) (by assumption) (by kernel_rfl) ?rest115
          case hy115 => (intro w' hSw; (try dsimp only at hSw); go_simp; try with_reducible rfl)
          try simp only [Act.put, List.setIfInBounds_toArray, List.set_cons_zero, List.set_cons_succ]
          refine wpAnyG_takeL (i := 10) (v := ?v116) (fuel := 16) (listed' := #[true, true, true, true, true, true, true, true, true, true, true, false, false, false, false, false, false, false, false, false, false, false, false, false, false, false, false]) rfl (by kernel_rfl) (fun _ _ _ h => h) (.inl ⟨by rfl, ?hy116⟩) (by assumption) (by kernel_rfl) ?rest116
          case hy116 => (intro w' hSw; (try dsimp only at hSw); go_simp; try with_reducible rfl)
          try simp only [Act.put, List.setIfInBounds_toArray, List.set_cons_zero, List.set_cons_succ]
          refine wpAnyG_takeL (i := 11) (v := ?v117) (fuel := 15) (listed' := #[true, true, true, true, true, true, true, true, true, true, true, true, false, false, false, false, false, false, false, false, false, false, false, false, false, false, false]) rfl (by kernel_rfl) (fun _ _ _ h => h) (.inl ⟨by rfl, ?hy117⟩) (by assumption) (by kernel_rfl) ?rest117
          case hy117 => (intro w' hSw; (try dsimp only at hSw); go_simp; try with_reducible rfl)
          try simp only [Act.put, List.setIfInBounds_toArray, List.set_cons_zero, List.set_cons_succ]
          refine wpAnyG_takeL (i := 12) (v := ?v118) (fuel := 14) (listed' := #[true, true, true, true, true, true, true, true, true, true, true, true, true, false, false, false, false, false, false, false, false, false, false, false, false, false, false]) rfl (by kernel_rfl) (fun _ _ _ h => h) (.inl ⟨by rfl, ?hy118⟩) (by assumption) (by kernel_rfl) ?rest118
          case hy118 => (intro w' hSw; (try dsimp only at hSw); go_simp; try with_reducible rfl)
          try simp only [Act.put, List.setIfInBounds_toArray, List.set_cons_zero, List.set_cons_succ]
          refine wpAnyG_takeL (i := 13) (v := ?v119) (fuel := 13) (listed' := #[true, true, true, true, true, true, true, true, true, true, true, true, true, true, false, false, false, false, false, false, false, false, false, false, false, false, false]) rfl (by kernel_rfl) (fun _ _ _ h => h) (.inl ⟨by rfl, ?hy119⟩) (by assumption) (by kernel_rfl) ?rest119
          case hy119 => (intro w' hSw; (try dsimp only at hSw); go_simp; try with_reducible rfl)
          try simp only [Act.put, List.setIfInBounds_toArray, List.set_cons_zero, List.set_cons_succ]
          refine wpAnyG_takeL (i := 14) (v := ?v120) (fuel := 12) (listed' := #[true, true, true, true, true, true, true, true, true, true, true, true, true, true, true, false, false, false, false, false, false, false, false, false, false, false, false]) rfl (by kernel_rfl) (fun _ _ _ h => h) (.inl ⟨by rfl, ?hy120⟩) (by assumption) (by kernel_rfl) ?rest120
          case hy120 => (intro w' hSw; (try dsimp only at hSw); go_simp; try with_reducible rfl)
          try simp only [Act.put, List.setIfInBounds_toArray, List.set_cons_zero, List.set_cons_succ]
          refine wpAnyG_takeL (i := 15) (v := ?v121) (fuel := 11) (listed' := #[true, true, true, true, true, true, true, true, true, true, true, true, true, true, true, true, false, false, false, false, false, false, false, false, false, false, false]) rfl (by kernel_rfl) (fun _ _ _ h => h) (.inl ⟨by rfl, ?hy121⟩) (by assumption) (by kernel_rfl) ?rest121
          case hy121 => (intro w' hSw; (try dsimp only at hSw); go_simp; try with_reducible rfl)
          try simp only [Act.put, List.setIfInBounds_toArray, List.set_cons_zero, List.set_cons_succ]
          refine wpAnyG_takeL (i := 16) (v := ?v122) (fuel := 10) (listed' := #[true, true, true, true, true, true, true, true, true, true, true, true, true, true, true, true, true, false, false, false, false, false, false, false, false, false, false]) rfl (by kernel_rfl) (fun _ _ _ h => h) (.inl ⟨by rfl, ?hy122⟩) (by assumption) (by kernel_rfl) ?rest122
          case hy122 => (intro w' hSw; (try dsimp only at hSw); go_simp; try with_reducible rfl)
          try simp only [Act.put, List.setIfInBounds_toArray, List.set_cons_zero, List.set_cons_succ]
          refine wpAnyG_takeL (i := 17) (v := ?v123) (fuel := 9) (listed' := #[true, true, true, true, true, true, true, true, true, true, true, true, true, true, true, true, true, true, false, false, false, false, false, false, false, false, false]) rfl (by kernel_rfl) (fun _ _ _ h => h) (.inl ⟨by rfl, ?hy123⟩) (by assumption) (by kernel_rfl) ?rest123
          case hy123 => (intro w' hSw; (try dsimp only at hSw); go_simp; try with_reducible rfl)
          try simp only [Act.put, List.setIfInBounds_toArray, List.set_cons_zero, List.set_cons_succ]
          refine wpAnyG_takeL (i := 18) (v := ?v124) (fuel := 8) (listed' := #[true, true, true, true, true, true, true, true, true, true, true, true, true, true, true, true, true, true, true, false, false, false, false, false, false, false, false]) rfl (by kernel_rfl) (fun _ _ _ h => h) (.inl ⟨by rfl, ?hy124⟩) (by assumption) (by kernel_rfl) ?rest124
          case hy124 => (intro w' hSw; (try dsimp only at hSw); go_simp; try with_reducible rfl)
          try simp only [Act.put, List.setIfInBounds_toArray, List.set_cons_zero, List.set_cons_succ]
          refine wpAnyG_takeL (i := 19) (v := ?v125) (fuel := 7) (listed' := #[true, true, true, true, true, true, true, true, true, true, true, true, true, true, true, true, true, true, true, true, false, false, false, false, false, false, false]) rfl (by kernel_rfl) (fun _ _ _ h => h) (.inl ⟨by rfl, ?hy125⟩) (by assumption) (by kernel_rfl) ?rest125
          case hy125 => (intro w' hSw; (try dsimp only at hSw); go_simp; try with_reducible rfl)
          try simp only [Act.put, List.setIfInBounds_toArray, List.set_cons_zero, List.set_cons_succ]
          refine wpAnyG_takeL (i := 20) (v := ?v126) (fuel := 6) (listed' := #[true, true, true, true, true, true, true, true, true, true, true, true, true, true, true, true, true, true, true, true, true, false, false, false, false, false, false]) rfl (by kernel_rfl) (fun _ _ _ h => h) (.inl ⟨by rfl, ?hy126⟩) (by assumption) (by kernel_rfl) ?rest126
          case hy126 => (intro w' hSw; (try dsimp only at hSw); go_simp; try with_reducible rfl)
          try simp only [Act.put, List.setIfInBounds_toArray, List.set_cons_zero, List.set_cons_succ]
          refine wpAnyG_takeL (i := 21) (v := ?v127) (fuel := 5) (listed' := #[true, true, true, true, true, true, true, true, true, true, true, true, true, true, true, true, true, true, true, true, true, true, false, false, false, false, false]) rfl (by kernel_rfl) (fun _ _ _ h => h) (.inl ⟨by rfl, ?hy127⟩) (by assumption) (by kernel_rfl) ?rest127
          case hy127 => (intro w' hSw; (try dsimp only at hSw); go_simp; try with_reducible rfl)
          try simp only [Act.put, List.setIfInBounds_toArray, List.set_cons_zero, List.set_cons_succ]
          refine wpAnyG_takeL (i := 22) (v := ?v128) (fuel := 4) (listed' := #[true, true, true, true, true, true, true, true, true, true, true, true, true, true, true, true, true, true, true, true, true, true, true, false, false, false, false]) rfl (by kernel_rfl) (fun _ _ _ h => h) (.inl ⟨by rfl, ?hy128⟩) (by assumption) (by kernel_rfl) ?rest128
          case hy128 => (intro w' hSw; (try dsimp only at hSw); go_simp; try with_reducible rfl)
          try simp only [Act.put, List.setIfInBounds_toArray, List.set_cons_zero, List.set_cons_succ]
          refine wpAnyG_takeL (i := 23) (v := ?v129) (fuel := 3) (listed' := #[true, true, true, true, true, true, true, true, true, true, true, true, true, true, true, true, true, true, true, true, true, true, true, true, false, false, false]) rfl (by kernel_rfl) (fun _ _ _ h => h) (.inl ⟨by rfl, ?hy129⟩) (by assumption) (by kernel_rfl) ?rest129
          case hy129 => (intro w' hSw; (try dsimp only at hSw); go_simp; try with_reducible rfl)
          try simp only [Act.put, List.setIfInBounds_toArray, List.set_cons_zero, List.set_cons_succ]
          refine wpAnyG_takeL (i := 24) (v := ?v130) (fuel := 2) (listed' := #[true, true, true, true, true, true, true, true, true, true, true, true, true, true, true, true, true, true, true, true, true, true, true, true, true, false, false]) rfl (by kernel_rfl) (fun _ _ _ h => h) (.inl ⟨by rfl, ?hy130⟩) (by assumption) (by kernel_rfl) ?rest130
          case hy130 => (intro w' hSw; (try dsimp only at hSw); go_simp; try with_reducible rfl)
          try simp only [Act.put, List.setIfInBounds_toArray, List.set_cons_zero, List.set_cons_succ]
          refine wpAnyG_takeL (i := 25) (v := ?v131) (fuel := 1) (listed' := #[true, true, true, true, true, true, true, true, true, true, true, true, true, true, true, true, true, true, true, true, true, true, true, true, true, true, false]) rfl (by kernel_rfl) (fun _ _ _ h => h) (.inl ⟨by rfl, ?hy131⟩) (by assumption) (by kernel_rfl) ?rest131
          case hy131 => (intro w' hSw; (try dsimp only at hSw); go_simp; try with_reducible rfl)
          try simp only [Act.put, List.setIfInBounds_toArray, List.set_cons_zero, List.set_cons_succ]
          refine wpAnyG_oneL (i := 26) (fuel := 0) (listed' := #[true, true, true, true, true, true, true, true, true, true, true, true, true, true, true, true, true, true, true, true, true, true, true, true, true, true, true]) rfl (by kernel_rfl) (by kernel_rfl) (by rfl) (fun K hK0 => ?_)
          have hK := Lib.hid hK0
          clear hK0
          go_simp
          refine hK.out _ _ (.inr (by decide)) ?_
          clear hK K
          refine wpAnyG_done (by kernel_rfl) ?_ _
          clear hS0
          go_wp2_with fail
          go_meet
          case rel => exact ⟨_, 0, 0, rfl, rfl, H6.out.1.below hb9, H6.out.2.1.then (Tch.of_below hb9) (fun _ _ h => h), H6.out.2.2.belowAll hb9, by rw [prog_not ws (by unfold thereS; omega)]; exact Keeps.refl _ (Nat.le_refl _) (Nat.zero_le _)⟩
        · have u1 : decide (0 ≤ bk) = true := decide_eq_true (by omega)
          have u2 : decide (bk < (c.B : Int)) = true := decide_eq_true (by omega)
          have u3 : decide (0 ≤ pg) = true := decide_eq_true (by omega)
          have u4 : decide (pg < (c.P : Int)) = true := decide_eq_true (by omega)
          refine wp_region_G (fun w' : World => w'.cell? ⟨w.heap.size + 1, 0, none⟩ = some (.int .i64 dd) ∧ w'.cell? ⟨w.heap.size + 1, 1, none⟩ = some (.int .i64 bk) ∧ w'.cell? ⟨w.heap.size + 1, 2, none⟩ = some (.int .i64 pg) ∧ w'.cell? ⟨w.heap.size + 1, 3, none⟩ = some (.int .u8 fl) ∧ w'.cell? ⟨w.heap.size + 1, 4, none⟩ = some (.slice Ab nb db) ∧ w'.cell? ⟨w.heap.size + 1, 5, none⟩ = some (.slice Ah nh dh) ∧ w'.cell? ⟨pb, 0, none⟩ = some (.pointer (some ⟨a, 0, none⟩)) ∧ w'.cell? ⟨pb, 1, none⟩ = some (.pointer (some ⟨r, 0, none⟩)) ∧ w'.cell? ⟨r, 0, none⟩ = some (.int .i64 (c.B : Int)) ∧ w'.cell? ⟨r, 1, none⟩ = some (.int .i64 (c.P : Int)) ∧ w'.cell? ⟨r, 2, none⟩ = some (.int .i64 (c.S : Int))) 26 27 #[false, false, false, false, false, false, false, false, false, false, false, false, false, false, false, false, false, false, false, false, false, false, false, false, false, false, false] (by kernel_rfl) rfl (by kernel_rfl) ?_
          have hb9 := (Below.refl w6.heap.size w6).drew
          have hS0 : (fun w' : World => w'.cell? ⟨w.heap.size + 1, 0, none⟩ = some (.int .i64 dd) ∧ w'.cell? ⟨w.heap.size + 1, 1, none⟩ = some (.int .i64 bk) ∧ w'.cell? ⟨w.heap.size + 1, 2, none⟩ = some (.int .i64 pg) ∧ w'.cell? ⟨w.heap.size + 1, 3, none⟩ = some (.int .u8 fl) ∧ w'.cell? ⟨w.heap.size + 1, 4, none⟩ = some (.slice Ab nb db) ∧ w'.cell? ⟨w.heap.size + 1, 5, none⟩ = some (.slice Ah nh dh) ∧ w'.cell? ⟨pb, 0, none⟩ = some (.pointer (some ⟨a, 0, none⟩)) ∧ w'.cell? ⟨pb, 1, none⟩ = some (.pointer (some ⟨r, 0, none⟩)) ∧ w'.cell? ⟨r, 0, none⟩ = some (.int .i64 (c.B : Int)) ∧ w'.cell? ⟨r, 1, none⟩ = some (.int .i64 (c.P : Int)) ∧ w'.cell? ⟨r, 2, none⟩ = some (.int .i64 (c.S : Int))) w6.drew := HC.out _ (H6.out.2.1.then (Tch.of_below hb9) (fun _ _ h => h))
          generalize w6.drew = w9 at *
          try dsimp only at hS0
          refine wpAnyG_takeL (i := 0) (v := ?v132) (fuel := 26) (listed' := #[true, false, false, false, false, false, false, false, false, false, false, false, false, false, false, false, false, false, false, false, false, false, false, false, false, false, false]) rfl (by kernel_rfl) (fun _ _ _ h => h) (.inl ⟨by rfl, ?hy132⟩) (by assumption) (by kernel_rfl) ?rest132
          case hy132 => (intro w' hSw; (try dsimp only at hSw); go_simp; try with_reducible rfl)
          try simp only [Act.put, List.setIfInBounds_toArray, List.set_cons_zero, List.set_cons_succ]
          refine wpAnyG_takeL (i := 1) (v := ?v133) (fuel := 25) (listed' := #[true, true, false, false, false, false, false, false, false, false, false, false, false, false, false, false, false, false, false, false, false, false, false, false, false, false, false]) rfl (by kernel_rfl) (fun _ _ _ h => h) (.inl ⟨by rfl, ?hy133⟩) (by assumption) (by kernel_rfl) ?rest133
          case hy133 => (intro w' hSw; (try dsimp only at hSw); go_simp; try with_reducible rfl)
          try simp only [Act.put, List.setIfInBounds_toArray, List.set_cons_zero, List.set_cons_succ]
          refine wpAnyG_takeL (i := 2) (v := ?v134) (fuel := 24) (listed' := #[true, true, true, false, false, false, false, false, false, false, false, false, false, false, false, false, false, false, false, false, false, false, false, false, false, false, false]) rfl (by kernel_rfl) (fun _ _ _ h => h) (.inl ⟨by rfl, ?hy134⟩) (by assumption) (by kernel_rfl) ?rest134
          case hy134 => (intro w' hSw; (try dsimp only at hSw); go_simp; try with_reducible rfl)
          try simp only [Act.put, List.setIfInBounds_toArray, List.set_cons_zero, List.set_cons_succ]
          refine wpAnyG_takeL (i := 3) (v := ?v135) (fuel := 23) (listed' := #[true, true, true, true, false, false, false, false, false, false, false, false, false, false, false, false, false, false, false, false, false, false, false, false, false, false, false]) rfl (by kernel_rfl) (fun _ _ _ h => h) (.inl ⟨by rfl, ?hy135⟩) (by assumption) (by kernel_rfl) ?rest135
          case hy135 => (intro w' hSw; (try dsimp only at hSw); go_simp; try with_reducible rfl)
          try simp only [Act.put, List.setIfInBounds_toArray, List.set_cons_zero, List.set_cons_succ]
          refine wpAnyG_takeL (i := 4) (v := ?v136) (fuel := 22) (listed' := #[true, true, true, true, true, false, false, false, false, false, false, false, false, false, false, false, false, false, false, false, false, false, false, false, false, false, false]) rfl (by kernel_rfl) (fun _ _ _ h => h) (.inl ⟨by rfl, ?hy136⟩) (by assumption) (by kernel_rfl) ?rest136
          case hy136 => (intro w' hSw; (try dsimp only at hSw); go_simp; try with_reducible rfl)
          try simp only [Act.put, List.setIfInBounds_toArray, List.set_cons_zero, List.set_cons_succ]
          refine wpAnyG_takeL (i := 5) (v := ?v137) (fuel := 21) (listed' := #[true, true, true, true, true, true, false, false, false, false, false, false, false, false, false, false, false, false, false, false, false, false, false, false, false, false, false]) rfl (by kernel_rfl) (fun _ _ _ h => h) (.inl ⟨by rfl, ?hy137⟩) (by assumption) (by kernel_rfl) ?rest137
          case hy137 => (intro w' hSw; (try dsimp only at hSw); go_simp; try with_reducible rfl)
          try simp only [Act.put, List.setIfInBounds_toArray, List.set_cons_zero, List.set_cons_succ]
          refine wpAnyG_takeL (i := 6) (v := ?v138) (fuel := 20) (listed' := #[true, true, true, true, true, true, true, false, false, false, false, false, false, false, false, false, false, false, false, false, false, false, false, false, false, false, false]) rfl (by kernel_rfl) (fun _ _ _ h => h) (.inl ⟨by rfl, ?hy138⟩) (by assumption) (by kernel_rfl) ?rest138
          case hy138 => (intro w' hSw; (try dsimp only at hSw); go_simp; try with_reducible rfl)
          try simp only [Act.put, List.setIfInBounds_toArray, List.set_cons_zero, List.set_cons_succ]
          refine wpAnyG_takeL (i := 7) (v := ?v139) (fuel := 19) (listed' := #[true, true, true, true, true, true, true, true, false, false, false, false, false, false, false, false, false, false, false, false, false, false, false, false, false, false, false]) rfl (by kernel_rfl) (fun _ _ _ h => h) (.inl ⟨by rfl, ?hy139⟩) (by assumption) (by kernel_rfl) ?rest139
          case hy139 => (intro w' hSw; (try dsimp only at hSw); go_simp; try with_reducible rfl)
          try simp only [Act.put, List.setIfInBounds_toArray, List.set_cons_zero, List.set_cons_succ]
          refine wpAnyG_takeL (i := 8) (v := ?v140) (fuel := 18) (listed' := #[true, true, true, true, true, true, true, true, true, false, false, false, false, false, false, false, false, false, false, false, false, false, false, false, false, false, false]) rfl (by kernel_rfl) (fun _ _ _ h => h) (.inl ⟨by rfl, ?hy140⟩) (by assumption) (by kernel_rfl) ?rest140
          case hy140 => (intro w' hSw; (try dsimp only at hSw); go_simp; try with_reducible rfl)
          try simp only [Act.put, List.setIfInBounds_toArray, List.set_cons_zero, List.set_cons_succ]
          refine wpAnyG_takeL (i := 9) (v := ?v141) (fuel := 17) (listed' := #[true, true, true, true, true, true, true, true, true, true, false, false, false, false, false, false, false, false, false, false, false, false, false, false, false, false, false]) rfl (by kernel_rfl) (fun _ _ _ h => h) (.inl ⟨by rfl, ?hy141⟩) (by assumption) (by kernel_rfl) ?rest141
          case hy141 => (intro w' hSw; (try dsimp only at hSw); go_simp; try with_reducible rfl)
          try simp only [Act.put, List.setIfInBounds_toArray, List.set_cons_zero, List.set_cons_succ]
          refine wpAnyG_takeL (i := 10) (v := ?v142) (fuel := 16) (listed' := #[true, true, true, true, true, true, true, true, true, true, true, false, false, false, false, false, false, false, false, false, false, false, false, false, false, false, false]) rfl (by kernel_rfl) (fun _ _ _ h => h) (.inl ⟨by rfl, ?hy142⟩) (by assumption) (by kernel_rfl) ?rest142
          case hy142 => (intro w' hSw; (try dsimp only at hSw); go_simp; try with_reducible rfl)
          try simp only [Act.put, List.setIfInBounds_toArray, List.set_cons_zero, List.set_cons_succ]
          refine wpAnyG_takeL (i := 11) (v := ?v143) (fuel := 15) (listed' := #[true, true, true, true, true, true, true, true, true, true, true, true, false, false, false, false, false, false, false, false, false, false, false, false, false, false, false]) rfl (by kernel_rfl) (fun _ _ _ h => h) (.inl ⟨by rfl, ?hy143⟩) (by assumption) (by kernel_rfl) ?rest143
          case hy143 => (intro w' hSw; (try dsimp only at hSw); go_simp; try with_reducible rfl)
          try simp only [Act.put, List.setIfInBounds_toArray, List.set_cons_zero, List.set_cons_succ]
          refine wpAnyG_takeL (i := 12) (v := ?v144) (fuel := 14) (listed' := #[true, true, true, true, true, true, true, true, true, true, true, true, true, false, false, false, false, false, false, false, false, false, false, false, false, false, false]) rfl (by kernel_rfl) (fun _ _ _ h => h) (.inl ⟨by rfl, ?hy144⟩) (by assumption) (by kernel_rfl) ?rest144
          case hy144 => (intro w' hSw; (try dsimp only at hSw); go_simp; try with_reducible rfl)
          try simp only [Act.put, List.setIfInBounds_toArray, List.set_cons_zero, List.set_cons_succ]
          refine wpAnyG_takeL (i := 13) (v := ?v145) (fuel := 13) (listed' := #[true, true, true, true, true, true, true, true, true, true, true, true, true, true, false, false, false, false, false, false, false, false, false, false, false, false, false]) rfl (by kernel_rfl) (fun _ _ _ h => h) (.inl ⟨by rfl, ?hy145⟩) (by assumption) (by kernel_rfl) ?rest145
          case hy145 => (intro w' hSw; (try dsimp only at hSw); go_simp; try with_reducible rfl)
          try simp only [Act.put, List.setIfInBounds_toArray, List.set_cons_zero, List.set_cons_succ]
          refine wpAnyG_takeL (i := 14) (v := ?v146) (fuel := 12) (listed' := #[true, true, true, true, true, true, true, true, true, true, true, true, true, true, true, false, false, false, false, false, false, false, false, false, false, false, false]) rfl (by kernel_rfl) (fun _ _ _ h => h) (.inl ⟨by rfl, ?hy146⟩) (by assumption) (by kernel_rfl) ?rest146
          case hy146 => (intro w' hSw; (try dsimp only at hSw); go_simp; try with_reducible rfl)
          try simp only [Act.put, List.setIfInBounds_toArray, List.set_cons_zero, List.set_cons_succ]
          refine wpAnyG_takeL (i := 15) (v := ?v147) (fuel := 11) (listed' := #[true, true, true, true, true, true, true, true, true, true, true, true, true, true, true, true, false, false, false, false, false, false, false, false, false, false, false]) rfl (by kernel_rfl) (fun _ _ _ h => h) (.inl ⟨by rfl, ?hy147⟩) (by assumption) (by kernel_rfl) ?rest147
          case hy147 => (intro w' hSw; (try dsimp only at hSw); go_simp; try with_reducible rfl)
          try simp only [Act.put, List.setIfInBounds_toArray, List.set_cons_zero, List.set_cons_succ]
          refine wpAnyG_takeL (i := 16) (v := ?v148) (fuel := 10) (listed' := #[true, true, true, true, true, true, true, true, true, true, true, true, true, true, true, true, true, false, false, false, false, false, false, false, false, false, false]) rfl (by kernel_rfl) (fun _ _ _ h => h) (.inl ⟨by rfl, ?hy148⟩) (by assumption) (by kernel_rfl) ?rest148
          case hy148 => (intro w' hSw; (try dsimp only at hSw); go_simp; try with_reducible rfl)
          try simp only [Act.put, List.setIfInBounds_toArray, List.set_cons_zero, List.set_cons_succ]
          refine wpAnyG_takeL (i := 17) (v := ?v149) (fuel := 9) (listed' := #[true, true, true, true, true, true, true, true, true, true, true, true, true, true, true, true, true, true, false, false, false, false, false, false, false, false, false]) rfl (by kernel_rfl) (fun _ _ _ h => h) (.inl ⟨by rfl, ?hy149⟩) (by assumption) (by kernel_rfl) ?rest149
          case hy149 => (intro w' hSw; (try dsimp only at hSw); go_simp; try with_reducible rfl)
          try simp only [Act.put, List.setIfInBounds_toArray, List.set_cons_zero, List.set_cons_succ]
          refine wpAnyG_takeL (i := 18) (v := ?v150) (fuel := 8) (listed' := #[true, true, true, true, true, true, true, true, true, true, true, true, true, true, true, true, true, true, true, false, false, false, false, false, false, false, false]) rfl (by kernel_rfl) (fun _ _ _ h => h) (.inl ⟨by rfl, ?hy150⟩) (by assumption) (by kernel_rfl) ?rest150
          case hy150 => (intro w' hSw; (try dsimp only at hSw); go_simp; try with_reducible rfl)
          try simp only [Act.put, List.setIfInBounds_toArray, List.set_cons_zero, List.set_cons_succ]
          refine wpAnyG_takeL (i := 19) (v := ?v151) (fuel := 7) (listed' := #[true, true, true, true, true, true, true, true, true, true, true, true, true, true, true, true, true, true, true, true, false, false, false, false, false, false, false]) rfl (by kernel_rfl) (fun _ _ _ h => h) (.inl ⟨by rfl, ?hy151⟩) (by assumption) (by kernel_rfl) ?rest151
          case hy151 => (intro w' hSw; (try dsimp only at hSw); go_simp; try with_reducible rfl)
          try simp only [Act.put, List.setIfInBounds_toArray, List.set_cons_zero, List.set_cons_succ]
          refine wpAnyG_takeL (i := 20) (v := ?v152) (fuel := 6) (listed' := #[true, true, true, true, true, true, true, true, true, true, true, true, true, true, true, true, true, true, true, true, true, false, false, false, false, false, false]) rfl (by kernel_rfl) (fun _ _ _ h => h) (.inl ⟨by rfl, ?hy152⟩) (by assumption) (by kernel_rfl) ?rest152
          case hy152 => (intro w' hSw; (try dsimp only at hSw); go_simp; try with_reducible rfl)
          try simp only [Act.put, List.setIfInBounds_toArray, List.set_cons_zero, List.set_cons_succ]
          refine wpAnyG_takeL (i := 21) (v := ?v153) (fuel := 5) (listed' := #[true, true, true, true, true, true, true, true, true, true, true, true, true, true, true, true, true, true, true, true, true, true, false, false, false, false, false]) rfl (by kernel_rfl) (fun _ _ _ h => h) (.inl ⟨by rfl, ?hy153⟩) (by assumption) (by kernel_rfl) ?rest153
          case hy153 => (intro w' hSw; (try dsimp only at hSw); go_simp; try with_reducible rfl)
          try simp only [Act.put, List.setIfInBounds_toArray, List.set_cons_zero, List.set_cons_succ]
          refine wpAnyG_takeL (i := 22) (v := ?v154) (fuel := 4) (listed' := #[true, true, true, true, true, true, true, true, true, true, true, true, true, true, true, true, true, true, true, true, true, true, true, false, false, false, false]) rfl (by kernel_rfl) (fun _ _ _ h => h) (.inl ⟨by rfl, ?hy154⟩) (by assumption) (by kernel_rfl) ?rest154
          case hy154 => (intro w' hSw; (try dsimp only at hSw); go_simp; try with_reducible rfl)
          try simp only [Act.put, List.setIfInBounds_toArray, List.set_cons_zero, List.set_cons_succ]
          refine wpAnyG_takeL (i := 23) (v := ?v155) (fuel := 3) (listed' := #[true, true, true, true, true, true, true, true, true, true, true, true, true, true, true, true, true, true, true, true, true, true, true, true, false, false, false]) rfl (by kernel_rfl) (fun _ _ _ h => h) (.inl ⟨by rfl, ?hy155⟩) (by assumption) (by kernel_rfl) ?rest155
          case hy155 => (intro w' hSw; (try dsimp only at hSw); go_simp; try with_reducible rfl)
          try simp only [Act.put, List.setIfInBounds_toArray, List.set_cons_zero, List.set_cons_succ]
          refine wpAnyG_takeL (i := 24) (v := ?v156) (fuel := 2) (listed' := #[true, true, true, true, true, true, true, true, true, true, true, true, true, true, true, true, true, true, true, true, true, true, true, true, true, false, false]) rfl (by kernel_rfl) (fun _ _ _ h => h) (.inl ⟨by rfl, ?hy156⟩) (by assumption) (by kernel_rfl) ?rest156
          case hy156 => (intro w' hSw; (try dsimp only at hSw); go_simp; try with_reducible rfl)
          try simp only [Act.put, List.setIfInBounds_toArray, List.set_cons_zero, List.set_cons_succ]
          refine wpAnyG_takeL (i := 25) (v := ?v157) (fuel := 1) (listed' := #[true, true, true, true, true, true, true, true, true, true, true, true, true, true, true, true, true, true, true, true, true, true, true, true, true, true, false]) rfl (by kernel_rfl) (fun _ _ _ h => h) (.inl ⟨by rfl, ?hy157⟩) (by assumption) (by kernel_rfl) ?rest157
          case hy157 => (intro w' hSw; (try dsimp only at hSw); go_simp; try with_reducible rfl)
          try simp only [Act.put, List.setIfInBounds_toArray, List.set_cons_zero, List.set_cons_succ]
          refine wpAnyG_oneL (i := 26) (fuel := 0) (listed' := #[true, true, true, true, true, true, true, true, true, true, true, true, true, true, true, true, true, true, true, true, true, true, true, true, true, true, true]) rfl (by kernel_rfl) (by kernel_rfl) (by rfl) (fun K hK0 => ?_)
          have hK := Lib.hid hK0
          clear hK0
          go_simp
          refine hK.out _ _ (.inr (by decide)) ?_
          clear hK K
          refine wpAnyG_done (by kernel_rfl) ?_ _
          obtain ⟨j0, j1, j2, _, _, _, _, _, _, _, _⟩ := hS0
          obtain ⟨q, hq⟩ : ∃ q : Nat, bk = (q : Int) := ⟨bk.toNat, by omega⟩
          obtain ⟨t, ht⟩ : ∃ t : Nat, pg = (t : Int) := ⟨pg.toNat, by omega⟩
          obtain ⟨e1, e2, e3⟩ := HOK.out.page_end (b := q) (p := t) (by omega) (by omega)
          have hkp := prog_keeps HOK.out (b := bk) (p := pg) ws (by unfold thereS; omega)
          rw [show bk.toNat = q by omega, show pg.toNat = t by omega] at hkp
          rw [← e2] at hkp
          have hle := HOK.out.pos.2
          have h4 : q * c.P + t ≤ (q * c.P + t) * c.S := Nat.le_mul_of_pos_right _ (by have := HOK.out.s1; omega)
          have m1 : (bk * (c.P : Int)) = ((q * c.P : Nat) : Int) := by rw [hq]; simp
          have hz1 : IntKind.i64.wrap (bk * (c.P : Int)) = ((q * c.P : Nat) : Int) := by rw [m1]; exact IntWalk.i64_in _ (by omega)
          have hz2 : IntKind.i64.wrap (((q * c.P : Nat) : Int) + pg) = ((q * c.P + t : Nat) : Int) := by rw [show ((q * c.P : Nat) : Int) + pg = ((q * c.P + t : Nat) : Int) by rw [ht]; simp]; exact IntWalk.i64_in _ (by omega)
          have m3 : (((q * c.P + t : Nat) : Int) * (c.S : Int)) = (((q * c.P + t) * c.S : Nat) : Int) := by simp
          have hz3 : IntKind.i64.wrap (((q * c.P + t : Nat) : Int) * (c.S : Int)) = (((q * c.P + t) * c.S : Nat) : Int) := by rw [m3]; exact IntWalk.i64_in _ (by omega)
          have hz4 : IntKind.i64.wrap ((((q * c.P + t) * c.S : Nat) : Int) + (c.S : Int)) = (((q * c.P + t) * c.S + c.S : Nat) : Int) := by rw [show (((q * c.P + t) * c.S : Nat) : Int) + (c.S : Int) = (((q * c.P + t) * c.S + c.S : Nat) : Int) by simp]; exact IntWalk.i64_in _ (by omega)
          have HKP := Lib.hid hkp
          clear m1 m3 h4 e1 e2 e3 hkp hle hq ht
          generalize (q * c.P + t) * c.S = X at *
          generalize hX4 : X + c.S = X4 at *
          have HX4 := Lib.hid hX4
          clear hX4
          generalize q * c.P + t = Y at *
          generalize q * c.P = Z at *
          have hB9 := Lib.hid hb9
          clear hb9
          go_wp2_with fail
          go_meet
          case rel => exact ⟨_, X, X4, rfl, rfl, H6.out.1.below hB9.out, H6.out.2.1.then (Tch.of_below hB9.out) (fun _ _ h => h), H6.out.2.2.belowAll hB9.out, HKP.out⟩
      · have t1 : (dd == 1) = false := beq_eq_false_iff_ne.2 hd
        clear hd
        go_wp2_with fail
        refine wp_region_G (fun w' : World => w'.cell? ⟨w.heap.size + 1, 0, none⟩ = some (.int .i64 dd) ∧ w'.cell? ⟨w.heap.size + 1, 1, none⟩ = some (.int .i64 bk) ∧ w'.cell? ⟨w.heap.size + 1, 2, none⟩ = some (.int .i64 pg) ∧ w'.cell? ⟨w.heap.size + 1, 3, none⟩ = some (.int .u8 fl) ∧ w'.cell? ⟨w.heap.size + 1, 4, none⟩ = some (.slice Ab nb db) ∧ w'.cell? ⟨w.heap.size + 1, 5, none⟩ = some (.slice Ah nh dh) ∧ w'.cell? ⟨pb, 0, none⟩ = some (.pointer (some ⟨a, 0, none⟩)) ∧ w'.cell? ⟨pb, 1, none⟩ = some (.pointer (some ⟨r, 0, none⟩)) ∧ w'.cell? ⟨r, 0, none⟩ = some (.int .i64 (c.B : Int)) ∧ w'.cell? ⟨r, 1, none⟩ = some (.int .i64 (c.P : Int)) ∧ w'.cell? ⟨r, 2, none⟩ = some (.int .i64 (c.S : Int))) 6 7 #[false, false, false, false, false, false, false] (by kernel_rfl) rfl (by kernel_rfl) ?_
        have hb4 := H3.out.1.drew
        have hS0 : (fun w' : World => w'.cell? ⟨w.heap.size + 1, 0, none⟩ = some (.int .i64 dd) ∧ w'.cell? ⟨w.heap.size + 1, 1, none⟩ = some (.int .i64 bk) ∧ w'.cell? ⟨w.heap.size + 1, 2, none⟩ = some (.int .i64 pg) ∧ w'.cell? ⟨w.heap.size + 1, 3, none⟩ = some (.int .u8 fl) ∧ w'.cell? ⟨w.heap.size + 1, 4, none⟩ = some (.slice Ab nb db) ∧ w'.cell? ⟨w.heap.size + 1, 5, none⟩ = some (.slice Ah nh dh) ∧ w'.cell? ⟨pb, 0, none⟩ = some (.pointer (some ⟨a, 0, none⟩)) ∧ w'.cell? ⟨pb, 1, none⟩ = some (.pointer (some ⟨r, 0, none⟩)) ∧ w'.cell? ⟨r, 0, none⟩ = some (.int .i64 (c.B : Int)) ∧ w'.cell? ⟨r, 1, none⟩ = some (.int .i64 (c.P : Int)) ∧ w'.cell? ⟨r, 2, none⟩ = some (.int .i64 (c.S : Int))) w3.drew := HC.out _ (Tch.of_below hb4)
        dsimp only at hS0
        have hrow4 : RowB 5 w3.drew g2 full := H3.out.2
        generalize w3.drew = w4 at *
        have H4 := Lib.hid (And.intro hb4 hrow4)
        clear hb4 hrow4 k0 k1 k2
        refine wpAnyG_takeL (i := 0) (v := ?v158) (fuel := 6) (listed' := #[true, false, false, false, false, false, false]) rfl (by kernel_rfl) (fun _ _ _ h => h) (.inl ⟨by rfl, ?hy158⟩) (by assumption) (by kernel_rfl) ?rest158
        case hy158 => (intro w' hSw; (try dsimp only at hSw); go_simp; try with_reducible rfl)
        try simp only [Act.put, List.setIfInBounds_toArray, List.set_cons_zero, List.set_cons_succ]
        refine wpAnyG_takeL (i := 1) (v := ?v159) (fuel := 5) (listed' := #[true, true, false, false, false, false, false]) rfl (by kernel_rfl) (fun _ _ _ h => h) (.inl ⟨by rfl, ?hy159⟩) (by assumption) (by kernel_rfl) ?rest159
        case hy159 => (intro w' hSw; (try dsimp only at hSw); go_simp; try with_reducible rfl)
        try simp only [Act.put, List.setIfInBounds_toArray, List.set_cons_zero, List.set_cons_succ]
        refine wpAnyG_takeL (i := 2) (v := ?v160) (fuel := 4) (listed' := #[true, true, true, false, false, false, false]) rfl (by kernel_rfl) (fun _ _ _ h => h) (.inl ⟨by rfl, ?hy160⟩) (by assumption) (by kernel_rfl) ?rest160
        case hy160 => (intro w' hSw; (try dsimp only at hSw); go_simp; try with_reducible rfl)
        try simp only [Act.put, List.setIfInBounds_toArray, List.set_cons_zero, List.set_cons_succ]
        refine wpAnyG_takeL (i := 3) (v := ?v161) (fuel := 3) (listed' := #[true, true, true, true, false, false, false]) rfl (by kernel_rfl) (fun _ _ _ h => h) (.inl ⟨by rfl, ?hy161⟩) (by assumption) (by kernel_rfl) ?rest161
        case hy161 => (intro w' hSw; (try dsimp only at hSw); go_simp; try with_reducible rfl)
        try simp only [Act.put, List.setIfInBounds_toArray, List.set_cons_zero, List.set_cons_succ]
        refine wpAnyG_takeL (i := 4) (v := ?v162) (fuel := 2) (listed' := #[true, true, true, true, true, false, false]) rfl (by kernel_rfl) (fun _ _ _ h => h) (.inl ⟨by rfl, ?hy162⟩) (by assumption) (by kernel_rfl) ?rest162
        case hy162 => (intro w' hSw; (try dsimp only at hSw); go_simp; try with_reducible rfl)
        try simp only [Act.put, List.setIfInBounds_toArray, List.set_cons_zero, List.set_cons_succ]
        refine wpAnyG_takeL (i := 5) (v := ?v163) (fuel := 1) (listed' := #[true, true, true, true, true, true, false]) rfl (by kernel_rfl) (fun _ _ _ h => h) (.inl ⟨by rfl, ?hy163⟩) (by assumption) (by kernel_rfl) ?rest163
        case hy163 => (intro w' hSw; (try dsimp only at hSw); go_simp; try with_reducible rfl)
        try simp only [Act.put, List.setIfInBounds_toArray, List.set_cons_zero, List.set_cons_succ]
        obtain ⟨L5, hL5⟩ := HX.out.pc.below H4.out.1
        have HPR := Lib.hid (erase_pc hL5 bk)
        clear hL5
        refine wpAnyG_oneL (i := 6) (fuel := 0) (listed' := #[true, true, true, true, true, true, true]) rfl (by kernel_rfl) (by kernel_rfl) (by rfl) (fun K hK0 => ?_)
        have hK := Lib.hid hK0
        clear hK0
        go_simp
        refine HPR.out.mono ?_
        rintro e w6 ⟨rfl, hpc6, ht6⟩
        have H6 := Lib.hid (And.intro hpc6 (And.intro ((Tch.of_below H4.out.1).then ht6 (fun _ _ h => h)) (H4.out.2.heap (ht6.block _ H4.out.2.lt HG2.out))))
        clear hpc6 ht6
        refine hK.out _ _ (.inr (by decide)) ?_
        clear hK K
        refine wpAnyG_done (by kernel_rfl) ?_ _
        clear hS0
        go_wp2_with fail
        have hcase : bk < 0 ∨ (0 ≤ bk ∧ (c.B : Int) ≤ bk) ∨ (0 ≤ bk ∧ bk < (c.B : Int)) := by omega
        rcases hcase with hcs | hcs | hcs
        · have u1 : decide (0 ≤ bk) = false := decide_eq_false (by omega)
          refine wp_region_G (fun w' : World => w'.cell? ⟨w.heap.size + 1, 0, none⟩ = some (.int .i64 dd) ∧ w'.cell? ⟨w.heap.size + 1, 1, none⟩ = some (.int .i64 bk) ∧ w'.cell? ⟨w.heap.size + 1, 2, none⟩ = some (.int .i64 pg) ∧ w'.cell? ⟨w.heap.size + 1, 3, none⟩ = some (.int .u8 fl) ∧ w'.cell? ⟨w.heap.size + 1, 4, none⟩ = some (.slice Ab nb db) ∧ w'.cell? ⟨w.heap.size + 1, 5, none⟩ = some (.slice Ah nh dh) ∧ w'.cell? ⟨pb, 0, none⟩ = some (.pointer (some ⟨a, 0, none⟩)) ∧ w'.cell? ⟨pb, 1, none⟩ = some (.pointer (some ⟨r, 0, none⟩)) ∧ w'.cell? ⟨r, 0, none⟩ = some (.int .i64 (c.B : Int)) ∧ w'.cell? ⟨r, 1, none⟩ = some (.int .i64 (c.P : Int)) ∧ w'.cell? ⟨r, 2, none⟩ = some (.int .i64 (c.S : Int))) 15 16 #[false, false, false, false, false, false, false, false, false, false, false, false, false, false, false, false] (by kernel_rfl) rfl (by kernel_rfl) ?_
          have hb9 := (Below.refl w6.heap.size w6).drew
          have hS0 : (fun w' : World => w'.cell? ⟨w.heap.size + 1, 0, none⟩ = some (.int .i64 dd) ∧ w'.cell? ⟨w.heap.size + 1, 1, none⟩ = some (.int .i64 bk) ∧ w'.cell? ⟨w.heap.size + 1, 2, none⟩ = some (.int .i64 pg) ∧ w'.cell? ⟨w.heap.size + 1, 3, none⟩ = some (.int .u8 fl) ∧ w'.cell? ⟨w.heap.size + 1, 4, none⟩ = some (.slice Ab nb db) ∧ w'.cell? ⟨w.heap.size + 1, 5, none⟩ = some (.slice Ah nh dh) ∧ w'.cell? ⟨pb, 0, none⟩ = some (.pointer (some ⟨a, 0, none⟩)) ∧ w'.cell? ⟨pb, 1, none⟩ = some (.pointer (some ⟨r, 0, none⟩)) ∧ w'.cell? ⟨r, 0, none⟩ = some (.int .i64 (c.B : Int)) ∧ w'.cell? ⟨r, 1, none⟩ = some (.int .i64 (c.P : Int)) ∧ w'.cell? ⟨r, 2, none⟩ = some (.int .i64 (c.S : Int))) w6.drew := HC.out _ (H6.out.2.1.then (Tch.of_below hb9) (fun _ _ h => h))
          generalize w6.drew = w9 at *
          try dsimp only at hS0
          refine wpAnyG_takeL (i := 0) (v := ?v164) (fuel := 15) (listed' := #[true, false, false, false, false, false, false, false, false, false, false, false, false, false, false, false]) rfl (by kernel_rfl) (fun _ _ _ h => h) (.inl ⟨by rfl, ?hy164⟩) (by assumption) (by kernel_rfl) ?rest164
          case hy164 => (intro w' hSw; (try dsimp only at hSw); go_simp; try with_reducible rfl)
          try simp only [Act.put, List.setIfInBounds_toArray, List.set_cons_zero, List.set_cons_succ]
          refine wpAnyG_takeL (i := 1) (v := ?v165) (fuel := 14) (listed' := #[true, true, false, false, false, false, false, false, false, false, false, false, false, false, false, false]) rfl (by kernel_rfl) (fun _ _ _ h => h) (.inl ⟨by rfl, ?hy165⟩) (by assumption) (by kernel_rfl) ?rest165
          case hy165 => (intro w' hSw; (try dsimp only at hSw); go_simp; try with_reducible rfl)
          try simp only [Act.put, List.setIfInBounds_toArray, List.set_cons_zero, List.set_cons_succ]
          refine wpAnyG_takeL (i := 2) (v := ?v166) (fuel := 13) (listed' := #[true, true, true, false, false, false, false, false, false, false, false, false, false, false, false, false]) rfl (by kernel_rfl) (fun _ _ _ h => h) (.inl ⟨by rfl, ?hy166⟩) (by assumption) (by kernel_rfl) ?rest166
          case hy166 => (intro w' hSw; (try dsimp only at hSw); go_simp; try with_reducible rfl)
          try simp only [Act.put, List.setIfInBounds_toArray, List.set_cons_zero, List.set_cons_succ]
          refine wpAnyG_takeL (i := 3) (v := ?v167) (fuel := 12) (listed' := #[true, true, true, true, false, false, false, false, false, false, false, false, false, false, false, false]) rfl (by kernel_rfl) (fun _ _ _ h => h) (.inl ⟨by rfl, ?hy167⟩) (by assumption) (by kernel_rfl) ?rest167
          case hy167 => (intro w' hSw; (try dsimp only at hSw); go_simp; try with_reducible rfl)
          try simp only [Act.put, List.setIfInBounds_toArray, List.set_cons_zero, List.set_cons_succ]
          refine wpAnyG_takeL (i := 4) (v := undef) (fuel := 11) (listed' := #[true, true, true, true, true, false, false, false, false, false, false, false, false, false, false, false]) rfl (by kernel_rfl) (fun _ _ _ h => h) (.inr ⟨by rfl, rfl⟩) (by assumption) (by kernel_rfl) ?rest168
          try simp only [Act.put, List.setIfInBounds_toArray, List.set_cons_zero, List.set_cons_succ]
          refine wpAnyG_takeL (i := 5) (v := undef) (fuel := 10) (listed' := #[true, true, true, true, true, true, false, false, false, false, false, false, false, false, false, false]) rfl (by kernel_rfl) (fun _ _ _ h => h) (.inr ⟨by rfl, rfl⟩) (by assumption) (by kernel_rfl) ?rest169
          try simp only [Act.put, List.setIfInBounds_toArray, List.set_cons_zero, List.set_cons_succ]
          refine wpAnyG_takeL (i := 6) (v := undef) (fuel := 9) (listed' := #[true, true, true, true, true, true, true, false, false, false, false, false, false, false, false, false]) rfl (by kernel_rfl) (fun _ _ _ h => h) (.inr ⟨by rfl, rfl⟩) (by assumption) (by kernel_rfl) ?rest170
          try simp only [Act.put, List.setIfInBounds_toArray, List.set_cons_zero, List.set_cons_succ]
          refine wpAnyG_takeL (i := 7) (v := undef) (fuel := 8) (listed' := #[true, true, true, true, true, true, true, true, false, false, false, false, false, false, false, false]) rfl (by kernel_rfl) (fun _ _ _ h => h) (.inr ⟨by rfl, rfl⟩) (by assumption) (by kernel_rfl) ?rest171
          try simp only [Act.put, List.setIfInBounds_toArray, List.set_cons_zero, List.set_cons_succ]
          refine wpAnyG_takeL (i := 8) (v := undef) (fuel := 7) (listed' := #[true, true, true, true, true, true, true, true, true, false, false, false, false, false, false, false]) rfl (by kernel_rfl) (fun _ _ _ h => h) (.inr ⟨by rfl, rfl⟩) (by assumption) (by kernel_rfl) ?rest172
          try simp only [Act.put, List.setIfInBounds_toArray, List.set_cons_zero, List.set_cons_succ]
          refine wpAnyG_takeL (i := 9) (v := undef) (fuel := 6) (listed' := #[true, true, true, true, true, true, true, true, true, true, false, false, false, false, false, false]) rfl (by kernel_rfl) (fun _ _ _ h => h) (.inr ⟨by rfl, rfl⟩) (by assumption) (by kernel_rfl) ?rest173
          try simp only [Act.put, List.setIfInBounds_toArray, List.set_cons_zero, List.set_cons_succ]
          refine wpAnyG_takeL (i := 10) (v := undef) (fuel := 5) (listed' := #[true, true, true, true, true, true, true, true, true, true, true, false, false, false, false, false]) rfl (by kernel_rfl) (fun _ _ _ h => h) (.inr ⟨by rfl, rfl⟩) (by assumption) (by kernel_rfl) ?rest174
          try simp only [Act.put, List.setIfInBounds_toArray, List.set_cons_zero, List.set_cons_succ]
          refine wpAnyG_takeL (i := 11) (v := undef) (fuel := 4) (listed' := #[true, true, true, true, true, true, true, true, true, true, true, true, false, false, false, false]) rfl (by kernel_rfl) (fun _ _ _ h => h) (.inr ⟨by rfl, rfl⟩) (by assumption) (by kernel_rfl) ?rest175
          try simp only [Act.put, List.setIfInBounds_toArray, List.set_cons_zero, List.set_cons_succ]
          refine wpAnyG_takeL (i := 12) (v := undef) (fuel := 3) (listed' := #[true, true, true, true, true, true, true, true, true, true, true, true, true, false, false, false]) rfl (by kernel_rfl) (fun _ _ _ h => h) (.inr ⟨by rfl, rfl⟩) (by assumption) (by kernel_rfl) ?rest176
          try simp only [Act.put, List.setIfInBounds_toArray, List.set_cons_zero, List.set_cons_succ]
          refine wpAnyG_takeL (i := 13) (v := undef) (fuel := 2) (listed' := #[true, true, true, true, true, true, true, true, true, true, true, true, true, true, false, false]) rfl (by kernel_rfl) (fun _ _ _ h => h) (.inr ⟨by rfl, rfl⟩) (by assumption) (by kernel_rfl) ?rest177
          try simp only [Act.put, List.setIfInBounds_toArray, List.set_cons_zero, List.set_cons_succ]
          refine wpAnyG_takeL (i := 14) (v := undef) (fuel := 1) (listed' := #[true, true, true, true, true, true, true, true, true, true, true, true, true, true, true, false]) rfl (by kernel_rfl) (fun _ _ _ h => h) (.inr ⟨by rfl, rfl⟩) (by assumption) (by kernel_rfl) ?rest178
          try simp only [Act.put, List.setIfInBounds_toArray, List.set_cons_zero, List.set_cons_succ]
          refine wpAnyG_oneL (i := 15) (fuel := 0) (listed' := #[true, true, true, true, true, true, true, true, true, true, true, true, true, true, true, true]) rfl (by kernel_rfl) (by kernel_rfl) (by rfl) (fun K hK0 => ?_)
          have hK := Lib.hid hK0
          clear hK0
          go_simp
          refine hK.out _ _ (.inr (by decide)) ?_
          clear hK K
          refine wpAnyG_done (by kernel_rfl) ?_ _
          clear hS0
          go_wp2_with fail
          go_meet
          case rel => exact ⟨_, 0, 0, rfl, rfl, H6.out.1.below hb9, H6.out.2.1.then (Tch.of_below hb9) (fun _ _ h => h), H6.out.2.2.belowAll hb9, by rw [erase_not (by omega)]; exact Keeps.refl _ (Nat.le_refl _) (Nat.zero_le _)⟩
        · have u1 : decide (0 ≤ bk) = true := decide_eq_true (by omega)
          have u2 : decide (bk < (c.B : Int)) = false := decide_eq_false (by omega)
          refine wp_region_G (fun w' : World => w'.cell? ⟨w.heap.size + 1, 0, none⟩ = some (.int .i64 dd) ∧ w'.cell? ⟨w.heap.size + 1, 1, none⟩ = some (.int .i64 bk) ∧ w'.cell? ⟨w.heap.size + 1, 2, none⟩ = some (.int .i64 pg) ∧ w'.cell? ⟨w.heap.size + 1, 3, none⟩ = some (.int .u8 fl) ∧ w'.cell? ⟨w.heap.size + 1, 4, none⟩ = some (.slice Ab nb db) ∧ w'.cell? ⟨w.heap.size + 1, 5, none⟩ = some (.slice Ah nh dh) ∧ w'.cell? ⟨pb, 0, none⟩ = some (.pointer (some ⟨a, 0, none⟩)) ∧ w'.cell? ⟨pb, 1, none⟩ = some (.pointer (some ⟨r, 0, none⟩)) ∧ w'.cell? ⟨r, 0, none⟩ = some (.int .i64 (c.B : Int)) ∧ w'.cell? ⟨r, 1, none⟩ = some (.int .i64 (c.P : Int)) ∧ w'.cell? ⟨r, 2, none⟩ = some (.int .i64 (c.S : Int))) 15 16 #[false, false, false, false, false, false, false, false, false, false, false, false, false, false, false, false] (by kernel_rfl) rfl (by kernel_rfl) ?_
          have hb9 := (Below.refl w6.heap.size w6).drew
          have hS0 : (fun w' : World => w'.cell? ⟨w.heap.size + 1, 0, none⟩ = some (.int .i64 dd) ∧ w'.cell? ⟨w.heap.size + 1, 1, none⟩ = some (.int .i64 bk) ∧ w'.cell? ⟨w.heap.size + 1, 2, none⟩ = some (.int .i64 pg) ∧ w'.cell? ⟨w.heap.size + 1, 3, none⟩ = some (.int .u8 fl) ∧ w'.cell? ⟨w.heap.size + 1, 4, none⟩ = some (.slice Ab nb db) ∧ w'.cell? ⟨w.heap.size + 1, 5, none⟩ = some (.slice Ah nh dh) ∧ w'.cell? ⟨pb, 0, none⟩ = some (.pointer (some ⟨a, 0, none⟩)) ∧ w'.cell? ⟨pb, 1, none⟩ = some (.pointer (some ⟨r, 0, none⟩)) ∧ w'.cell? ⟨r, 0, none⟩ = some (.int .i64 (c.B : Int)) ∧ w'.cell? ⟨r, 1, none⟩ = some (.int .i64 (c.P : Int)) ∧ w'.cell? ⟨r, 2, none⟩ = some (.int .i64 (c.S : Int))) w6.drew := HC.out _ (H6.out.2.1.then (Tch.of_below hb9) (fun _ _ h => h))
          generalize w6.drew = w9 at *
          try dsimp only at hS0
          refine wpAnyG_takeL (i := 0) (v := ?v179) (fuel := 15) (listed' := #[true, false, false, false, false, false, false, false, false, false, false, false, false, false, false, false]) rfl (by kernel_rfl) (fun _ _ _ h => h) (.inl ⟨by rfl, ?hy179⟩) (by assumption) (by kernel_rfl) ?rest179
          case hy179 => (intro w' hSw; (try dsimp only at hSw); go_simp; try with_reducible rfl)
          try simp only [Act.put, List.setIfInBounds_toArray, List.set_cons_zero, List.set_cons_succ]
          refine wpAnyG_takeL (i := 1) (v := ?v180) (fuel := 14) (listed' := #[true, true, false, false, false, false, false, false, false, false, false, false, false, false, false, false]) rfl (by kernel_rfl) (fun _ _ _ h => h) (.inl ⟨by rfl, ?hy180⟩) (by assumption) (by kernel_rfl) ?rest180
          case hy180 => (intro w' hSw; (try dsimp only at hSw); go_simp; try with_reducible rfl)
          try simp only [Act.put, List.setIfInBounds_toArray, List.set_cons_zero, List.set_cons_succ]
          refine wpAnyG_takeL (i := 2) (v := ?v181) (fuel := 13) (listed' := #[true, true, true, false, false, false, false, false, false, false, false, false, false, false, false, false]) rfl (by kernel_rfl) (fun _ _ _ h => h) (.inl ⟨by rfl, ?hy181⟩) (by assumption) (by kernel_rfl) ?rest181
          case hy181 => (intro w' hSw; (try dsimp only at hSw); go_simp; try with_reducible rfl)
          try simp only [Act.put, List.setIfInBounds_toArray, List.set_cons_zero, List.set_cons_succ]
          refine wpAnyG_takeL (i := 3) (v := ?v182) (fuel := 12) (listed' := #[true, true, true, true, false, false, false, false, false, false, false, false, false, false, false, false]) rfl (by kernel_rfl) (fun _ _ _ h => h) (.inl ⟨by rfl, ?hy182⟩) (by assumption) (by kernel_rfl) ?rest182
          case hy182 => (intro w' hSw; (try dsimp only at hSw); go_simp; try with_reducible rfl)
          try simp only [Act.put, List.setIfInBounds_toArray, List.set_cons_zero, List.set_cons_succ]
          refine wpAnyG_takeL (i := 4) (v := ?v183) (fuel := 11) (listed' := #[true, true, true, true, true, false, false, false, false, false, false, false, false, false, false, false]) rfl (by kernel_rfl) (fun _ _ _ h => h) (.inl ⟨by rfl, ?hy183⟩) (by assumption) (by kernel_rfl) ?rest183
          case hy183 => (intro w' hSw; (try dsimp only at hSw); go_simp; try with_reducible rfl)
          try simp only [Act.put, List.setIfInBounds_toArray, List.set_cons_zero, List.set_cons_succ]
          refine wpAnyG_takeL (i := 5) (v := ?v184) (fuel := 10) (listed' := #[true, true, true, true, true, true, false, false, false, false, false, false, false, false, false, false]) rfl (by kernel_rfl) (fun _ _ _ h => h) (.inl ⟨by rfl, ?hy184⟩) (by assumption) (by kernel_rfl) ?rest184
          case hy184 => (intro w' hSw; (try dsimp only at hSw); go_simp; try with_reducible rfl)
          try simp only [Act.put, List.setIfInBounds_toArray, List.set_cons_zero, List.set_cons_succ]
          refine wpAnyG_takeL (i := 6) (v := ?v185) (fuel := 9) (listed' := #[true, true, true, true, true, true, true, false, false, false, false, false, false, false, false, false]) rfl (by kernel_rfl) (fun _ _ _ h => h) (.inl ⟨by rfl, ?hy185⟩) (by assumption) (by kernel_rfl) ?rest185
          case hy185 => (intro w' hSw; (try dsimp only at hSw); go_simp; try with_reducible rfl)
          try simp only [Act.put, List.setIfInBounds_toArray, List.set_cons_zero, List.set_cons_succ]
          refine wpAnyG_takeL (i := 7) (v := ?v186) (fuel := 8) (listed' := #[true, true, true, true, true, true, true, true, false, false, false, false, false, false, false, false]) rfl (by kernel_rfl) (fun _ _ _ h => h) (.inl ⟨by rfl, ?hy186⟩) (by assumption) (by kernel_rfl) ?rest186
          case hy186 => (intro w' hSw; (try dsimp only at hSw); go_simp; try with_reducible rfl)
          try simp only [Act.put, List.setIfInBounds_toArray, List.set_cons_zero, List.set_cons_succ]
          refine wpAnyG_takeL (i := 8) (v := ?v187) (fuel := 7) (listed' := #[true, true, true, true, true, true, true, true, true, false, false, false, false, false, false, false]) rfl (by kernel_rfl) (fun _ _ _ h => h) (.inl ⟨by rfl, ?hy187⟩) (by assumption) (by kernel_rfl) ?rest187
          case hy187 => (intro w' hSw; (try dsimp only at hSw); go_simp; try with_reducible rfl)
          try simp only [Act.put, List.setIfInBounds_toArray, List.set_cons_zero, List.set_cons_succ]
          refine wpAnyG_takeL (i := 9) (v := ?v188) (fuel := 6) (listed' := #[true, true, true, true, true, true, true, true, true, true, false, false, false, false, false, false]) rfl (by kernel_rfl) (fun _ _ _ h => h) (.inl ⟨by rfl, ?hy188⟩) (by assumption) (by kernel_rfl) ?rest188
          case hy188 => (intro w' hSw; (try dsimp only at hSw); go_simp; try with_reducible rfl)
          try simp only [Act.put, List.setIfInBounds_toArray, List.set_cons_zero, List.set_cons_succ]
          refine wpAnyG_takeL (i := 10) (v := ?v189) (fuel := 5) (listed' := #[true, true, true, true, true, true, true, true, true, true, true, false, false, false, false, false]) rfl (by kernel_rfl) (fun _ _ _ h => h) (.inl ⟨by rfl, ?hy189⟩) (by assumption) (by kernel_rfl) ?rest189
          case hy189 => (intro w' hSw; (try dsimp only at hSw); go_simp; try with_reducible rfl)
          try simp only [Act.put, List.setIfInBounds_toArray, List.set_cons_zero, List.set_cons_succ]
          refine wpAnyG_takeL (i := 11) (v := ?v190) (fuel := 4) (listed' := #[true, true, true, true, true, true, true, true, true, true, true, true, false, false, false, false]) rfl (by kernel_rfl) (fun _ _ _ h => h) (.inl ⟨by rfl, ?hy190⟩) (by assumption) (by kernel_rfl) ?rest190
          case hy190 => (intro w' hSw; (try dsimp only at hSw); go_simp; try with_reducible rfl)
          try simp only [Act.put, List.setIfInBounds_toArray, List.set_cons_zero, List.set_cons_succ]
          refine wpAnyG_takeL (i := 12) (v := ?v191) (fuel := 3) (listed' := #[true, true, true, true, true, true, true, true, true, true, true, true, true, false, false, false]) rfl (by kernel_rfl) (fun _ _ _ h => h) (.inl ⟨by rfl, ?hy191⟩) (by assumption) (by kernel_rfl) ?rest191
          case hy191 => (intro w' hSw; (try dsimp only at hSw); go_simp; try with_reducible rfl)
          try simp only [Act.put, List.setIfInBounds_toArray, List.set_cons_zero, List.set_cons_succ]
          refine wpAnyG_takeL (i := 13) (v := ?v192) (fuel := 2) (listed' := #[true, true, true, true, true, true, true, true, true, true, true, true, true, true, false, false]) rfl (by kernel_rfl) (fun _ _ _ h => h) (.inl ⟨by rfl, ?hy192⟩) (by assumption) (by kernel_rfl) ?rest192
          case hy192 => (intro w' hSw; (try dsimp only at hSw); go_simp; try with_reducible rfl)
          try simp only [Act.put, List.setIfInBounds_toArray, List.set_cons_zero, List.set_cons_succ]
          refine wpAnyG_takeL (i := 14) (v := ?v193) (fuel := 1) (listed' := #[true, true, true, true, true, true, true, true, true, true, true, true, true, true, true, false]) rfl (by kernel_rfl) (fun _ _ _ h => h) (.inl ⟨by rfl, ?hy193⟩) (by assumption) (by kernel_rfl) ?rest193
          case hy193 => (intro w' hSw; (try dsimp only at hSw); go_simp; try with_reducible rfl)
          try simp only [Act.put, List.setIfInBounds_toArray, List.set_cons_zero, List.set_cons_succ]
          refine wpAnyG_oneL (i := 15) (fuel := 0) (listed' := #[true, true, true, true, true, true, true, true, true, true, true, true, true, true, true, true]) rfl (by kernel_rfl) (by kernel_rfl) (by rfl) (fun K hK0 => ?_)
          have hK := Lib.hid hK0
          clear hK0
          go_simp
          refine hK.out _ _ (.inr (by decide)) ?_
          clear hK K
          refine wpAnyG_done (by kernel_rfl) ?_ _
          clear hS0
          go_wp2_with fail
          go_meet
          case rel => exact ⟨_, 0, 0, rfl, rfl, H6.out.1.below hb9, H6.out.2.1.then (Tch.of_below hb9) (fun _ _ h => h), H6.out.2.2.belowAll hb9, by rw [erase_not (by omega)]; exact Keeps.refl _ (Nat.le_refl _) (Nat.zero_le _)⟩
        · have u1 : decide (0 ≤ bk) = true := decide_eq_true (by omega)
          have u2 : decide (bk < (c.B : Int)) = true := decide_eq_true (by omega)
          refine wp_region_G (fun w' : World => w'.cell? ⟨w.heap.size + 1, 0, none⟩ = some (.int .i64 dd) ∧ w'.cell? ⟨w.heap.size + 1, 1, none⟩ = some (.int .i64 bk) ∧ w'.cell? ⟨w.heap.size + 1, 2, none⟩ = some (.int .i64 pg) ∧ w'.cell? ⟨w.heap.size + 1, 3, none⟩ = some (.int .u8 fl) ∧ w'.cell? ⟨w.heap.size + 1, 4, none⟩ = some (.slice Ab nb db) ∧ w'.cell? ⟨w.heap.size + 1, 5, none⟩ = some (.slice Ah nh dh) ∧ w'.cell? ⟨pb, 0, none⟩ = some (.pointer (some ⟨a, 0, none⟩)) ∧ w'.cell? ⟨pb, 1, none⟩ = some (.pointer (some ⟨r, 0, none⟩)) ∧ w'.cell? ⟨r, 0, none⟩ = some (.int .i64 (c.B : Int)) ∧ w'.cell? ⟨r, 1, none⟩ = some (.int .i64 (c.P : Int)) ∧ w'.cell? ⟨r, 2, none⟩ = some (.int .i64 (c.S : Int))) 15 16 #[false, false, false, false, false, false, false, false, false, false, false, false, false, false, false, false] (by kernel_rfl) rfl (by kernel_rfl) ?_
          have hb9 := (Below.refl w6.heap.size w6).drew
          have hS0 : (fun w' : World => w'.cell? ⟨w.heap.size + 1, 0, none⟩ = some (.int .i64 dd) ∧ w'.cell? ⟨w.heap.size + 1, 1, none⟩ = some (.int .i64 bk) ∧ w'.cell? ⟨w.heap.size + 1, 2, none⟩ = some (.int .i64 pg) ∧ w'.cell? ⟨w.heap.size + 1, 3, none⟩ = some (.int .u8 fl) ∧ w'.cell? ⟨w.heap.size + 1, 4, none⟩ = some (.slice Ab nb db) ∧ w'.cell? ⟨w.heap.size + 1, 5, none⟩ = some (.slice Ah nh dh) ∧ w'.cell? ⟨pb, 0, none⟩ = some (.pointer (some ⟨a, 0, none⟩)) ∧ w'.cell? ⟨pb, 1, none⟩ = some (.pointer (some ⟨r, 0, none⟩)) ∧ w'.cell? ⟨r, 0, none⟩ = some (.int .i64 (c.B : Int)) ∧ w'.cell? ⟨r, 1, none⟩ = some (.int .i64 (c.P : Int)) ∧ w'.cell? ⟨r, 2, none⟩ = some (.int .i64 (c.S : Int))) w6.drew := HC.out _ (H6.out.2.1.then (Tch.of_below hb9) (fun _ _ h => h))
          generalize w6.drew = w9 at *
          try dsimp only at hS0
          refine wpAnyG_takeL (i := 0) (v := ?v194) (fuel := 15) (listed' := #[true, false, false, false, false, false, false, false, false, false, false, false, false, false, false, false]) rfl (by kernel_rfl) (fun _ _ _ h => h) (.inl ⟨by rfl, ?hy194⟩) (by assumption) (by kernel_rfl) ?rest194
          case hy194 => (intro w' hSw; (try dsimp only at hSw); go_simp; try with_reducible rfl)
          try simp only [Act.put, List.setIfInBounds_toArray, List.set_cons_zero, List.set_cons_succ]
          refine wpAnyG_takeL (i := 1) (v := ?v195) (fuel := 14) (listed' := #[true, true, false, false, false, false, false, false, false, false, false, false, false, false, false, false]) rfl (by kernel_rfl) (fun _ _ _ h => h) (.inl ⟨by rfl, ?hy195⟩) (by assumption) (by kernel_rfl) ?rest195
          case hy195 => (intro w' hSw; (try dsimp only at hSw); go_simp; try with_reducible rfl)
          try simp only [Act.put, List.setIfInBounds_toArray, List.set_cons_zero, List.set_cons_succ]
          refine wpAnyG_takeL (i := 2) (v := ?v196) (fuel := 13) (listed' := #[true, true, true, false, false, false, false, false, false, false, false, false, false, false, false, false]) rfl (by kernel_rfl) (fun _ _ _ h => h) (.inl ⟨by rfl, ?hy196⟩) (by assumption) (by kernel_rfl) ?rest196
          case hy196 => (intro w' hSw; (try dsimp only at hSw); go_simp; try with_reducible rfl)
          try simp only [Act.put, List.setIfInBounds_toArray, List.set_cons_zero, List.set_cons_succ]
          refine wpAnyG_takeL (i := 3) (v := ?v197) (fuel := 12) (listed' := #[true, true, true, true, false, false, false, false, false, false, false, false, false, false, false, false]) rfl (by kernel_rfl) (fun _ _ _ h => h) (.inl ⟨by rfl, ?hy197⟩) (by assumption) (by kernel_rfl) ?rest197
          case hy197 => (intro w' hSw; (try dsimp only at hSw); go_simp; try with_reducible rfl)
          try simp only [Act.put, List.setIfInBounds_toArray, List.set_cons_zero, List.set_cons_succ]
          refine wpAnyG_takeL (i := 4) (v := ?v198) (fuel := 11) (listed' := #[true, true, true, true, true, false, false, false, false, false, false, false, false, false, false, false]) rfl (by kernel_rfl) (fun _ _ _ h => h) (.inl ⟨by rfl, ?hy198⟩) (by assumption) (by kernel_rfl) ?rest198
          case hy198 => (intro w' hSw; (try dsimp only at hSw); go_simp; try with_reducible rfl)
          try simp only [Act.put, List.setIfInBounds_toArray, List.set_cons_zero, List.set_cons_succ]
          refine wpAnyG_takeL (i := 5) (v := ?v199) (fuel := 10) (listed' := #[true, true, true, true, true, true, false, false, false, false, false, false, false, false, false, false]) rfl (by kernel_rfl) (fun _ _ _ h => h) (.inl ⟨by rfl, ?hy199⟩) (by assumption) (by kernel_rfl) ?rest199
          case hy199 => (intro w' hSw; (try dsimp only at hSw); go_simp; try with_reducible rfl)
          try simp only [Act.put, List.setIfInBounds_toArray, List.set_cons_zero, List.set_cons_succ]
          refine wpAnyG_takeL (i := 6) (v := ?v200) (fuel := 9) (listed' := #[true, true, true, true, true, true, true, false, false, false, false, false, false, false, false, false]) rfl (by kernel_rfl) (fun _ _ _ h => h) (.inl ⟨by rfl, ?hy200⟩) (by assumption) (by kernel_rfl) ?rest200
          case hy200 => (intro w' hSw; (try dsimp only at hSw); go_simp; try with_reducible rfl)
          try simp only [Act.put, List.setIfInBounds_toArray, List.set_cons_zero, List.set_cons_succ]
          refine wpAnyG_takeL (i := 7) (v := ?v201) (fuel := 8) (listed' := #[true, true, true, true, true, true, true, true, false, false, false, false, false, false, false, false]) rfl (by kernel_rfl) (fun _ _ _ h => h) (.inl ⟨by rfl, ?hy201⟩) (by assumption) (by kernel_rfl) ?rest201
          case hy201 => (intro w' hSw; (try dsimp only at hSw); go_simp; try with_reducible rfl)
          try simp only [Act.put, List.setIfInBounds_toArray, List.set_cons_zero, List.set_cons_succ]
          refine wpAnyG_takeL (i := 8) (v := ?v202) (fuel := 7) (listed' := #[true, true, true, true, true, true, true, true, true, false, false, false, false, false, false, false]) rfl (by kernel_rfl) (fun _ _ _ h => h) (.inl ⟨by rfl, ?hy202⟩) (by assumption) (by kernel_rfl) ?rest202
          case hy202 => (intro w' hSw; (try dsimp only at hSw); go_simp; try with_reducible rfl)
          try simp only [Act.put, List.setIfInBounds_toArray, List.set_cons_zero, List.set_cons_succ]
          refine wpAnyG_takeL (i := 9) (v := ?v203) (fuel := 6) (listed' := #[true, true, true, true, true, true, true, true, true, true, false, false, false, false, false, false]) rfl (by kernel_rfl) (fun _ _ _ h => h) (.inl ⟨by rfl, ?hy203⟩) (by assumption) (by kernel_rfl) ?rest203
          case hy203 => (intro w' hSw; (try dsimp only at hSw); go_simp; try with_reducible rfl)
          try simp only [Act.put, List.setIfInBounds_toArray, List.set_cons_zero, List.set_cons_succ]
          refine wpAnyG_takeL (i := 10) (v := ?v204) (fuel := 5) (listed' := #[true, true, true, true, true, true, true, true, true, true, true, false, false, false, false, false]) rfl (by kernel_rfl) (fun _ _ _ h => h) (.inl ⟨by rfl, ?hy204⟩) (by assumption) (by kernel_rfl) ?rest204
          case hy204 => (intro w' hSw; (try dsimp only at hSw); go_simp; try with_reducible rfl)
          try simp only [Act.put, List.setIfInBounds_toArray, List.set_cons_zero, List.set_cons_succ]
          refine wpAnyG_takeL (i := 11) (v := ?v205) (fuel := 4) (listed' := #[true, true, true, true, true, true, true, true, true, true, true, true, false, false, false, false]) rfl (by kernel_rfl) (fun _ _ _ h => h) (.inl ⟨by rfl, ?hy205⟩) (by assumption) (by kernel_rfl) ?rest205
          case hy205 => (intro w' hSw; (try dsimp only at hSw); go_simp; try with_reducible rfl)
          try simp only [Act.put, List.setIfInBounds_toArray, List.set_cons_zero, List.set_cons_succ]
          refine wpAnyG_takeL (i := 12) (v := ?v206) (fuel := 3) (listed' := #[true, true, true, true, true, true, true, true, true, true, true, true, true, false, false, false]) rfl (by kernel_rfl) (fun _ _ _ h => h) (.inl ⟨by rfl, ?hy206⟩) (by assumption) (by kernel_rfl) ?rest206
          case hy206 => (intro w' hSw; (try dsimp only at hSw); go_simp; try with_reducible rfl)
          try simp only [Act.put, List.setIfInBounds_toArray, List.set_cons_zero, List.set_cons_succ]
          refine wpAnyG_takeL (i := 13) (v := ?v207) (fuel := 2) (listed' := #[true, true, true, true, true, true, true, true, true, true, true, true, true, true, false, false]) rfl (by kernel_rfl) (fun _ _ _ h => h) (.inl ⟨by rfl, ?hy207⟩) (by assumption) (by kernel_rfl) ?rest207
          case hy207 => (intro w' hSw; (try dsimp only at hSw); go_simp; try with_reducible rfl)
          try simp only [Act.put, List.setIfInBounds_toArray, List.set_cons_zero, List.set_cons_succ]
          refine wpAnyG_takeL (i := 14) (v := ?v208) (fuel := 1) (listed' := #[true, true, true, true, true, true, true, true, true, true, true, true, true, true, true, false]) rfl (by kernel_rfl) (fun _ _ _ h => h) (.inl ⟨by rfl, ?hy208⟩) (by assumption) (by kernel_rfl) ?rest208
          case hy208 => (intro w' hSw; (try dsimp only at hSw); go_simp; try with_reducible rfl)
          try simp only [Act.put, List.setIfInBounds_toArray, List.set_cons_zero, List.set_cons_succ]
          refine wpAnyG_oneL (i := 15) (fuel := 0) (listed' := #[true, true, true, true, true, true, true, true, true, true, true, true, true, true, true, true]) rfl (by kernel_rfl) (by kernel_rfl) (by rfl) (fun K hK0 => ?_)
          have hK := Lib.hid hK0
          clear hK0
          go_simp
          refine hK.out _ _ (.inr (by decide)) ?_
          clear hK K
          refine wpAnyG_done (by kernel_rfl) ?_ _
          obtain ⟨j0, j1, j2, _, _, _, _, _, _, _, _⟩ := hS0
          obtain ⟨q, hq⟩ : ∃ q : Nat, bk = (q : Int) := ⟨bk.toNat, by omega⟩
          have e3 := HOK.out.row_end (i := q) (by omega)
          have hkp := erase_keeps HOK.out (b := bk) (by omega)
          rw [show bk.toNat = q by omega] at hkp
          have hle := HOK.out.pos.2
          have e2 : q * c.P * c.S = q * c.N := by unfold Chp.N; rw [Nat.mul_assoc]
          have h4 : q * c.P ≤ q * c.P * c.S := Nat.le_mul_of_pos_right _ (by have := HOK.out.s1; omega)
          have m1 : (bk * (c.P : Int)) = ((q * c.P : Nat) : Int) := by rw [hq]; simp
          have hz1 : IntKind.i64.wrap (bk * (c.P : Int)) = ((q * c.P : Nat) : Int) := by rw [m1]; exact IntWalk.i64_in _ (by omega)
          have m3 : (((q * c.P : Nat) : Int) * (c.S : Int)) = ((q * c.N : Nat) : Int) := by rw [← e2]; simp
          have hz3 : IntKind.i64.wrap (((q * c.P : Nat) : Int) * (c.S : Int)) = ((q * c.N : Nat) : Int) := by rw [m3]; exact IntWalk.i64_in _ (by omega)
          have m4 : ((c.P : Int) * (c.S : Int)) = ((c.N : Nat) : Int) := by unfold Chp.N; simp
          have hz5 : IntKind.i64.wrap ((c.P : Int) * (c.S : Int)) = ((c.N : Nat) : Int) := by rw [m4]; exact IntWalk.i64_in _ (by omega)
          have hz4 : IntKind.i64.wrap (((q * c.N : Nat) : Int) + ((c.N : Nat) : Int)) = ((q * c.N + c.N : Nat) : Int) := by rw [show ((q * c.N : Nat) : Int) + ((c.N : Nat) : Int) = ((q * c.N + c.N : Nat) : Int) by simp]; exact IntWalk.i64_in _ (by omega)
          have HKP := Lib.hid hkp
          clear m1 m3 m4 h4 e2 e3 hkp hle hq
          generalize hX4 : q * c.N + c.N = X4 at *
          have HX4 := Lib.hid hX4
          clear hX4
          generalize q * c.N = X at *
          generalize c.N = NN at *
          generalize q * c.P = Z at *
          have hB9 := Lib.hid hb9
          clear hb9
          go_wp2_with fail
          go_meet
          case rel => exact ⟨_, X, X4, rfl, rfl, H6.out.1.below hB9.out, H6.out.2.1.then (Tch.of_below hB9.out) (fun _ _ h => h), H6.out.2.2.belowAll hB9.out, HKP.out⟩
    case rest =>
      obtain ⟨c', fr, to, rfl, rfl, hpc, htc, hrow, hkp⟩ := hcut
      have HK := Lib.hid (And.intro htc (And.intro hrow hkp))
      have hq0 := (HC.out wc htc).2.2.2.2.2.2.1
      have hle := hkp.le
      have hlt := hkp.lt
      have hpl := hkp.len
      rw [HNB.out.1] at hlt hpl
      obtain ⟨L', hL'⟩ := hpc
      have HBY2 := Lib.hid (bytes_pc hL')
      clear htc hrow hkp hL' k0 k1 k2
      go_wp2_with fail
      refine HBY2.out.mono ?_
      rintro e wd ⟨v3, rfl, ho3, hb3⟩
      obtain ⟨g3, full3, rfl, hg3, hrow3, htk3, hml3⟩ := ho3.row (by rw [hpl]; exact hpos.1)
      have hnf3 : c'.bytes.length ≤ full3.length := OwnB.len (g := g3) htk3
      have hbw : Below w.heap.size w wd := by
        have e1 := HK.out.1.below HX.out.fb HX.out.base_le
        have e2 : Below w.heap.size w1 wc := ⟨e1.os, e1.tape, e1.output, e1.size, fun k hk => e1.block k (Nat.lt_of_lt_of_le hk H0.out.b0.size)⟩
        exact below_then (below_same H1.out e2) (below_same H1.out e2).size hb3
      have hR3 := hrow3.rvTake htk3
      have hR2 := (HK.out.2.1.belowAll hb3).rvTake H2.out.2.2.2.1
      have HSA := Lib.hid (show ∀ w', Below wd.heap.size wd w' → Calls Try.prog 14 #[.slice (some ⟨g3, 0, none⟩) fr full3.length, .slice (some ⟨g2, 0, none⟩) fr full.length] w' fun e w2 => e = .returned (.bool true) ∧ Drawn w' w2 from fun w' hb => by
        have ha : RV w' (some ⟨g3, 0, none⟩) (bv (c'.bytes.take fr)) := by rw [bv_take]; exact (hR3.below hb).take fr
        have hb' : RV w' (some ⟨g2, 0, none⟩) (bv (c.bytes.take fr)) := by rw [bv_take]; exact (hR2.below hb).take fr
        have l1 : (c'.bytes.take fr).length = fr := by rw [List.length_take, hpl]; omega
        have l2 : (c.bytes.take fr).length = fr := by rw [List.length_take, HNB.out.1]; omega
        have h := same_any _ _ full3.length full.length _ _ w' ha hb' (by rw [l1]; unfold maxLen; omega) (by rw [l2]; unfold maxLen; omega)
        rw [l1, l2, decide_eq_true HK.out.2.2.pre] at h
        exact h)
      have HSB := Lib.hid (show ∀ (w' : World) (A3 A2 : Option Addr) (n3 n2 d3 d2 : Nat), Below wd.heap.size wd w' → n3 = nbs - to → n2 = nbs - to → (to = nbs ∨ A3 = some ⟨g3, to, none⟩) → (to = nbs ∨ A2 = some ⟨g2, to, none⟩) → Calls Try.prog 14 #[.slice A3 n3 d3, .slice A2 n2 d2] w' fun e w2 => e = .returned (.bool true) ∧ Drawn w' w2 from fun w' A3 A2 n3 n2 d3 d2 hb hn3 hn2 h3 h2 => by
        subst hn3
        subst hn2
        have l1 : (c'.bytes.drop to).length = nbs - to := by rw [List.length_drop, hpl]
        have l2 : (c.bytes.drop to).length = nbs - to := by rw [List.length_drop, HNB.out.1]
        have ha : RV w' A3 (bv (c'.bytes.drop to)) := by
          rcases h3 with h3 | h3
          · have : c'.bytes.drop to = [] := List.drop_eq_nil_of_le (by rw [hpl]; omega)
            rw [this]
            exact RV.nil _ _
          · rw [h3, bv_drop]
            have := (hR3.below hb).drop to
            simpa [add_lit0] using this
        have hb' : RV w' A2 (bv (c.bytes.drop to)) := by
          rcases h2 with h2 | h2
          · have : c.bytes.drop to = [] := List.drop_eq_nil_of_le (by rw [HNB.out.1]; omega)
            rw [this]
            exact RV.nil _ _
          · rw [h2, bv_drop]
            have := (hR2.below hb).drop to
            simpa [add_lit0] using this
        have h := same_any _ _ d3 d2 _ _ w' ha hb' (by rw [l1]; unfold maxLen; omega) (by rw [l2]; unfold maxLen; omega)
        rw [l1, l2, decide_eq_true HK.out.2.2.suf] at h
        exact h)
      have HE := Lib.hid hbw
      rw [hpl] at hnf3 ⊢
      rw [HNB.out.2] at HSA
      clear ho3 hb3 hg3 hrow3 htk3 hR3 hR2 hbw hpl hq0
      generalize full3.length = f3l at *
      have t1 : decide ((nbs : Int) < (to : Int)) = false := decide_eq_false (by omega)
      have hfrI : (fr : Int) ≤ (nbs : Int) := by omega
      have htoI : (to : Int) ≤ (nbs : Int) := by omega
      have hfr0 : (0 : Int) ≤ (fr : Int) := by omega
      have hto0 : (0 : Int) ≤ (to : Int) := by omega
      have hf3 : (nbs : Int) ≤ (f3l : Int) := by omega
      have hf2 : (nbs : Int) ≤ (fll : Int) := by omega
      have hf3b : (fr : Int) ≤ (f3l : Int) := by omega
      have hf2b : (fr : Int) ≤ (fll : Int) := by omega
      go_wp2_with fail
      refine wp_region_G (fun w' : World => True) 19 20 #[false, false, false, false, false, false, false, false, false, false, false, false, false, false, false, false, false, false, false, false] (by kernel_rfl) rfl (by kernel_rfl) ?_
      have hS0 : (fun w' : World => True) wd.drew := trivial
      have hbd := (Below.refl wd.heap.size wd).drew
      generalize wd.drew = we at *
      have HBD := Lib.hid hbd
      clear hbd
      refine wpAnyG_takeL (i := 0) (v := ?v209) (fuel := 19) (listed' := #[true, false, false, false, false, false, false, false, false, false, false, false, false, false, false, false, false, false, false, false]) rfl (by kernel_rfl) (fun _ _ _ h => h) (.inl ⟨by rfl, ?hy209⟩) (by assumption) (by kernel_rfl) ?rest209
      case hy209 => (intro w' hSw; (try dsimp only at hSw); go_simp; try with_reducible rfl)
      try simp only [Act.put, List.setIfInBounds_toArray, List.set_cons_zero, List.set_cons_succ]
      refine wpAnyG_takeL (i := 1) (v := ?v210) (fuel := 18) (listed' := #[true, true, false, false, false, false, false, false, false, false, false, false, false, false, false, false, false, false, false, false]) rfl (by kernel_rfl) (fun _ _ _ h => h) (.inl ⟨by rfl, ?hy210⟩) (by assumption) (by kernel_rfl) ?rest210
      case hy210 => (intro w' hSw; (try dsimp only at hSw); go_simp; try with_reducible rfl)
      try simp only [Act.put, List.setIfInBounds_toArray, List.set_cons_zero, List.set_cons_succ]
      refine wpAnyG_takeL (i := 2) (v := ?v211) (fuel := 17) (listed' := #[true, true, true, false, false, false, false, false, false, false, false, false, false, false, false, false, false, false, false, false]) rfl (by kernel_rfl) (fun _ _ _ h => h) (.inl ⟨by rfl, ?hy211⟩) (by assumption) (by kernel_rfl) ?rest211
      case hy211 => (intro w' hSw; (try dsimp only at hSw); go_simp; try with_reducible rfl)
      try simp only [Act.put, List.setIfInBounds_toArray, List.set_cons_zero, List.set_cons_succ]
      refine wpAnyG_takeL (i := 3) (v := ?v212) (fuel := 16) (listed' := #[true, true, true, true, false, false, false, false, false, false, false, false, false, false, false, false, false, false, false, false]) rfl (by kernel_rfl) (fun _ _ _ h => h) (.inl ⟨by rfl, ?hy212⟩) (by assumption) (by kernel_rfl) ?rest212
      case hy212 => (intro w' hSw; (try dsimp only at hSw); go_simp; try with_reducible rfl)
      try simp only [Act.put, List.setIfInBounds_toArray, List.set_cons_zero, List.set_cons_succ]
      refine wpAnyG_takeL (i := 4) (v := ?v213) (fuel := 15) (listed' := #[true, true, true, true, true, false, false, false, false, false, false, false, false, false, false, false, false, false, false, false]) rfl (by kernel_rfl) (fun _ _ _ h => h) (.inl ⟨by rfl, ?hy213⟩) (by assumption) (by kernel_rfl) ?rest213
      case hy213 => (intro w' hSw; (try dsimp only at hSw); go_simp; try with_reducible rfl)
      try simp only [Act.put, List.setIfInBounds_toArray, List.set_cons_zero, List.set_cons_succ]
      refine wpAnyG_takeL (i := 5) (v := ?v214) (fuel := 14) (listed' := #[true, true, true, true, true, true, false, false, false, false, false, false, false, false, false, false, false, false, false, false]) rfl (by kernel_rfl) (fun _ _ _ h => h) (.inl ⟨by rfl, ?hy214⟩) (by assumption) (by kernel_rfl) ?rest214
      case hy214 => (intro w' hSw; (try dsimp only at hSw); go_simp; try with_reducible rfl)
      try simp only [Act.put, List.setIfInBounds_toArray, List.set_cons_zero, List.set_cons_succ]
      refine wpAnyG_oneL (i := 6) (fuel := 13) (listed' := #[true, true, true, true, true, true, true, false, false, false, false, false, false, false, false, false, false, false, false, false]) rfl (by kernel_rfl) (by kernel_rfl) (by rfl) (fun K hK0 => ?_)
      have hK := Lib.hid hK0
      clear hK0
      go_simp
      refine (HSA.out we HBD.out).mono ?_
      rintro e wf ⟨rfl, hdf⟩
      have HBF := Lib.hid (below_then HBD.out HBD.out.size (hdf.below _))
      clear hdf
      refine hK.out _ _ (.inl (trivial)) ?_
      clear hK K
      try simp only [Act.put, List.setIfInBounds_toArray, List.set_cons_zero, List.set_cons_succ]
      clear hS0
      have hS0 : (fun w' : World => True) wf := trivial
      by_cases hc3 : f3l = to
      · subst hc3
        by_cases hc2 : fll = f3l
        · subst hc2
          refine wpAnyG_takeL (i := 7) (v := ?v215) (fuel := 12) (listed' := #[true, true, true, true, true, true, true, true, false, false, false, false, false, false, false, false, false, false, false, false]) rfl (by kernel_rfl) (fun _ _ _ h => h) (.inl ⟨by rfl, ?hy215⟩) (by assumption) (by kernel_rfl) ?rest215
          case hy215 => (intro w' hSw; (try dsimp only at hSw); go_simp; try with_reducible rfl)
          try simp only [Act.put, List.setIfInBounds_toArray, List.set_cons_zero, List.set_cons_succ]
          refine wpAnyG_takeL (i := 8) (v := ?v216) (fuel := 11) (listed' := #[true, true, true, true, true, true, true, true, true, false, false, false, false, false, false, false, false, false, false, false]) rfl (by kernel_rfl) (fun _ _ _ h => h) (.inl ⟨by rfl, ?hy216⟩) (by assumption) (by kernel_rfl) ?rest216
          case hy216 => (intro w' hSw; (try dsimp only at hSw); go_simp; try with_reducible rfl)
          try simp only [Act.put, List.setIfInBounds_toArray, List.set_cons_zero, List.set_cons_succ]
          refine wpAnyG_takeL (i := 9) (v := ?v217) (fuel := 10) (listed' := #[true, true, true, true, true, true, true, true, true, true, false, false, false, false, false, false, false, false, false, false]) rfl (by kernel_rfl) (fun _ _ _ h => h) (.inl ⟨by rfl, ?hy217⟩) (by assumption) (by kernel_rfl) ?rest217
          case hy217 => (intro w' hSw; (try dsimp only at hSw); go_simp; try with_reducible rfl)
          try simp only [Act.put, List.setIfInBounds_toArray, List.set_cons_zero, List.set_cons_succ]
          refine wpAnyG_takeL (i := 10) (v := ?v218) (fuel := 9) (listed' := #[true, true, true, true, true, true, true, true, true, true, true, false, false, false, false, false, false, false, false, false]) rfl (by kernel_rfl) (fun _ _ _ h => h) (.inl ⟨by rfl, ?hy218⟩) (by assumption) (by kernel_rfl) ?rest218
          case hy218 => (intro w' hSw; (try dsimp only at hSw); go_simp; try with_reducible rfl)
          try simp only [Act.put, List.setIfInBounds_toArray, List.set_cons_zero, List.set_cons_succ]
          refine wpAnyG_takeL (i := 11) (v := ?v219) (fuel := 8) (listed' := #[true, true, true, true, true, true, true, true, true, true, true, true, false, false, false, false, false, false, false, false]) rfl (by kernel_rfl) (fun _ _ _ h => h) (.inl ⟨by rfl, ?hy219⟩) (by assumption) (by kernel_rfl) ?rest219
          case hy219 => (intro w' hSw; (try dsimp only at hSw); go_simp; try with_reducible rfl)
          try simp only [Act.put, List.setIfInBounds_toArray, List.set_cons_zero, List.set_cons_succ]
          refine wpAnyG_takeL (i := 12) (v := ?v220) (fuel := 7) (listed' := #[true, true, true, true, true, true, true, true, true, true, true, true, true, false, false, false, false, false, false, false]) rfl (by kernel_rfl) (fun _ _ _ h => h) (.inl ⟨by rfl, ?hy220⟩) (by assumption) (by kernel_rfl) ?rest220
          case hy220 => (intro w' hSw; (try dsimp only at hSw); go_simp; try with_reducible rfl)
          try simp only [Act.put, List.setIfInBounds_toArray, List.set_cons_zero, List.set_cons_succ]
          refine wpAnyG_takeL (i := 13) (v := ?v221) (fuel := 6) (listed' := #[true, true, true, true, true, true, true, true, true, true, true, true, true, true, false, false, false, false, false, false]) rfl (by kernel_rfl) (fun _ _ _ h => h) (.inl ⟨by rfl, ?hy221⟩) (by assumption) (by kernel_rfl) ?rest221
          case hy221 => (intro w' hSw; (try dsimp only at hSw); go_simp; try with_reducible rfl)
          try simp only [Act.put, List.setIfInBounds_toArray, List.set_cons_zero, List.set_cons_succ]
          refine wpAnyG_oneL (i := 14) (fuel := 5) (listed' := #[true, true, true, true, true, true, true, true, true, true, true, true, true, true, true, false, false, false, false, false]) rfl (by kernel_rfl) (by kernel_rfl) (by rfl) (fun K hK0 => ?_)
          have hK := Lib.hid hK0
          clear hK0
          go_simp
          refine (HSB.out wf _ _ _ _ _ _ HBF.out (by omega) (by omega) (by first | (right; rfl) | (left; omega)) (by first | (right; rfl) | (left; omega))).mono ?_
          rintro e wg ⟨rfl, hdg⟩
          have HBG := Lib.hid (below_then HBF.out HBF.out.size (hdg.below _))
          clear hdg
          refine hK.out _ _ (.inl (trivial)) ?_
          clear hK K
          try simp only [Act.put, List.setIfInBounds_toArray, List.set_cons_zero, List.set_cons_succ]
          clear hS0
          have hS0 : (fun w' : World => True) wg := trivial
          refine wpAnyG_takeL (i := 15) (v := ?v222) (fuel := 4) (listed' := #[true, true, true, true, true, true, true, true, true, true, true, true, true, true, true, true, false, false, false, false]) rfl (by kernel_rfl) (fun _ _ _ h => h) (.inl ⟨by rfl, ?hy222⟩) (by assumption) (by kernel_rfl) ?rest222
          case hy222 => (intro w' hSw; (try dsimp only at hSw); go_simp; try with_reducible rfl)
          try simp only [Act.put, List.setIfInBounds_toArray, List.set_cons_zero, List.set_cons_succ]
          refine wpAnyG_takeL (i := 16) (v := ?v223) (fuel := 3) (listed' := #[true, true, true, true, true, true, true, true, true, true, true, true, true, true, true, true, true, false, false, false]) rfl (by kernel_rfl) (fun _ _ _ h => h) (.inl ⟨by rfl, ?hy223⟩) (by assumption) (by kernel_rfl) ?rest223
          case hy223 => (intro w' hSw; (try dsimp only at hSw); go_simp; try with_reducible rfl)
          try simp only [Act.put, List.setIfInBounds_toArray, List.set_cons_zero, List.set_cons_succ]
          refine wpAnyG_oneL (i := 17) (fuel := 2) (listed' := #[true, true, true, true, true, true, true, true, true, true, true, true, true, true, true, true, true, true, false, false]) rfl (by kernel_rfl) (by kernel_rfl) (by rfl) (fun K hK0 => ?_)
          have hK := Lib.hid hK0
          clear hK0
          go_simp
          refine (works_any wg).mono ?_
          rintro e wh ⟨rfl, hbh⟩
          have HBH := Lib.hid (below_then HBG.out HBG.out.size hbh)
          clear hbh
          refine hK.out _ _ (.inl (trivial)) ?_
          clear hK K
          try simp only [Act.put, List.setIfInBounds_toArray, List.set_cons_zero, List.set_cons_succ]
          clear hS0
          have hS0 : (fun w' : World => True) wh := trivial
          refine wpAnyG_takeL (i := 18) (v := ?v224) (fuel := 1) (listed' := #[true, true, true, true, true, true, true, true, true, true, true, true, true, true, true, true, true, true, true, false]) rfl (by kernel_rfl) (fun _ _ _ h => h) (.inl ⟨by rfl, ?hy224⟩) (by assumption) (by kernel_rfl) ?rest224
          case hy224 => (intro w' hSw; (try dsimp only at hSw); go_simp; try with_reducible rfl)
          try simp only [Act.put, List.setIfInBounds_toArray, List.set_cons_zero, List.set_cons_succ]
          refine wpAnyG_oneL (i := 19) (fuel := 0) (listed' := #[true, true, true, true, true, true, true, true, true, true, true, true, true, true, true, true, true, true, true, true]) rfl (by kernel_rfl) (by kernel_rfl) (by rfl) (fun K hK0 => ?_)
          have hK := Lib.hid hK0
          clear hK0
          go_simp
          refine hK.out _ _ (.inr (by decide)) ?_
          clear hK K
          refine wpAnyG_done (by kernel_rfl) ?_ _
          clear hS0
          go_wp2_with fail
          go_ret
          exact ⟨rfl, below_then HE.out HE.out.size HBH.out⟩
        · skip
          refine wpAnyG_takeL (i := 7) (v := ?v225) (fuel := 12) (listed' := #[true, true, true, true, true, true, true, true, false, false, false, false, false, false, false, false, false, false, false, false]) rfl (by kernel_rfl) (fun _ _ _ h => h) (.inl ⟨by rfl, ?hy225⟩) (by assumption) (by kernel_rfl) ?rest225
          case hy225 => (intro w' hSw; (try dsimp only at hSw); go_simp; try with_reducible rfl)
          try simp only [Act.put, List.setIfInBounds_toArray, List.set_cons_zero, List.set_cons_succ]
          refine wpAnyG_takeL (i := 8) (v := ?v226) (fuel := 11) (listed' := #[true, true, true, true, true, true, true, true, true, false, false, false, false, false, false, false, false, false, false, false]) rfl (by kernel_rfl) (fun _ _ _ h => h) (.inl ⟨by rfl, ?hy226⟩) (by assumption) (by kernel_rfl) ?rest226
          case hy226 => (intro w' hSw; (try dsimp only at hSw); go_simp; try with_reducible rfl)
          try simp only [Act.put, List.setIfInBounds_toArray, List.set_cons_zero, List.set_cons_succ]
          refine wpAnyG_takeL (i := 9) (v := ?v227) (fuel := 10) (listed' := #[true, true, true, true, true, true, true, true, true, true, false, false, false, false, false, false, false, false, false, false]) rfl (by kernel_rfl) (fun _ _ _ h => h) (.inl ⟨by rfl, ?hy227⟩) (by assumption) (by kernel_rfl) ?rest227
          case hy227 => (intro w' hSw; (try dsimp only at hSw); go_simp; try with_reducible rfl)
          try simp only [Act.put, List.setIfInBounds_toArray, List.set_cons_zero, List.set_cons_succ]
          refine wpAnyG_takeL (i := 10) (v := ?v228) (fuel := 9) (listed' := #[true, true, true, true, true, true, true, true, true, true, true, false, false, false, false, false, false, false, false, false]) rfl (by kernel_rfl) (fun _ _ _ h => h) (.inl ⟨by rfl, ?hy228⟩) (by assumption) (by kernel_rfl) ?rest228
          case hy228 => (intro w' hSw; (try dsimp only at hSw); go_simp; try with_reducible rfl)
          try simp only [Act.put, List.setIfInBounds_toArray, List.set_cons_zero, List.set_cons_succ]
          refine wpAnyG_takeL (i := 11) (v := ?v229) (fuel := 8) (listed' := #[true, true, true, true, true, true, true, true, true, true, true, true, false, false, false, false, false, false, false, false]) rfl (by kernel_rfl) (fun _ _ _ h => h) (.inl ⟨by rfl, ?hy229⟩) (by assumption) (by kernel_rfl) ?rest229
          case hy229 => (intro w' hSw; (try dsimp only at hSw); go_simp; try with_reducible rfl)
          try simp only [Act.put, List.setIfInBounds_toArray, List.set_cons_zero, List.set_cons_succ]
          refine wpAnyG_takeL (i := 12) (v := ?v230) (fuel := 7) (listed' := #[true, true, true, true, true, true, true, true, true, true, true, true, true, false, false, false, false, false, false, false]) rfl (by kernel_rfl) (fun _ _ _ h => h) (.inl ⟨by rfl, ?hy230⟩) (by assumption) (by kernel_rfl) ?rest230
          case hy230 => (intro w' hSw; (try dsimp only at hSw); go_simp; try with_reducible rfl)
          try simp only [Act.put, List.setIfInBounds_toArray, List.set_cons_zero, List.set_cons_succ]
          refine wpAnyG_takeL (i := 13) (v := ?v231) (fuel := 6) (listed' := #[true, true, true, true, true, true, true, true, true, true, true, true, true, true, false, false, false, false, false, false]) rfl (by kernel_rfl) (fun _ _ _ h => h) (.inl ⟨by rfl, ?hy231⟩) (by assumption) (by kernel_rfl) ?rest231
          case hy231 => (intro w' hSw; (try dsimp only at hSw); go_simp; try with_reducible rfl)
          try simp only [Act.put, List.setIfInBounds_toArray, List.set_cons_zero, List.set_cons_succ]
          refine wpAnyG_oneL (i := 14) (fuel := 5) (listed' := #[true, true, true, true, true, true, true, true, true, true, true, true, true, true, true, false, false, false, false, false]) rfl (by kernel_rfl) (by kernel_rfl) (by rfl) (fun K hK0 => ?_)
          have hK := Lib.hid hK0
          clear hK0
          go_simp
          refine (HSB.out wf _ _ _ _ _ _ HBF.out (by omega) (by omega) (by first | (right; rfl) | (left; omega)) (by first | (right; rfl) | (left; omega))).mono ?_
          rintro e wg ⟨rfl, hdg⟩
          have HBG := Lib.hid (below_then HBF.out HBF.out.size (hdg.below _))
          clear hdg
          refine hK.out _ _ (.inl (trivial)) ?_
          clear hK K
          try simp only [Act.put, List.setIfInBounds_toArray, List.set_cons_zero, List.set_cons_succ]
          clear hS0
          have hS0 : (fun w' : World => True) wg := trivial
          refine wpAnyG_takeL (i := 15) (v := ?v232) (fuel := 4) (listed' := #[true, true, true, true, true, true, true, true, true, true, true, true, true, true, true, true, false, false, false, false]) rfl (by kernel_rfl) (fun _ _ _ h => h) (.inl ⟨by rfl, ?hy232⟩) (by assumption) (by kernel_rfl) ?rest232
          case hy232 => (intro w' hSw; (try dsimp only at hSw); go_simp; try with_reducible rfl)
          try simp only [Act.put, List.setIfInBounds_toArray, List.set_cons_zero, List.set_cons_succ]
          refine wpAnyG_takeL (i := 16) (v := ?v233) (fuel := 3) (listed' := #[true, true, true, true, true, true, true, true, true, true, true, true, true, true, true, true, true, false, false, false]) rfl (by kernel_rfl) (fun _ _ _ h => h) (.inl ⟨by rfl, ?hy233⟩) (by assumption) (by kernel_rfl) ?rest233
          case hy233 => (intro w' hSw; (try dsimp only at hSw); go_simp; try with_reducible rfl)
          try simp only [Act.put, List.setIfInBounds_toArray, List.set_cons_zero, List.set_cons_succ]
          refine wpAnyG_oneL (i := 17) (fuel := 2) (listed' := #[true, true, true, true, true, true, true, true, true, true, true, true, true, true, true, true, true, true, false, false]) rfl (by kernel_rfl) (by kernel_rfl) (by rfl) (fun K hK0 => ?_)
          have hK := Lib.hid hK0
          clear hK0
          go_simp
          refine (works_any wg).mono ?_
          rintro e wh ⟨rfl, hbh⟩
          have HBH := Lib.hid (below_then HBG.out HBG.out.size hbh)
          clear hbh
          refine hK.out _ _ (.inl (trivial)) ?_
          clear hK K
          try simp only [Act.put, List.setIfInBounds_toArray, List.set_cons_zero, List.set_cons_succ]
          clear hS0
          have hS0 : (fun w' : World => True) wh := trivial
          refine wpAnyG_takeL (i := 18) (v := ?v234) (fuel := 1) (listed' := #[true, true, true, true, true, true, true, true, true, true, true, true, true, true, true, true, true, true, true, false]) rfl (by kernel_rfl) (fun _ _ _ h => h) (.inl ⟨by rfl, ?hy234⟩) (by assumption) (by kernel_rfl) ?rest234
          case hy234 => (intro w' hSw; (try dsimp only at hSw); go_simp; try with_reducible rfl)
          try simp only [Act.put, List.setIfInBounds_toArray, List.set_cons_zero, List.set_cons_succ]
          refine wpAnyG_oneL (i := 19) (fuel := 0) (listed' := #[true, true, true, true, true, true, true, true, true, true, true, true, true, true, true, true, true, true, true, true]) rfl (by kernel_rfl) (by kernel_rfl) (by rfl) (fun K hK0 => ?_)
          have hK := Lib.hid hK0
          clear hK0
          go_simp
          refine hK.out _ _ (.inr (by decide)) ?_
          clear hK K
          refine wpAnyG_done (by kernel_rfl) ?_ _
          clear hS0
          go_wp2_with fail
          go_ret
          exact ⟨rfl, below_then HE.out HE.out.size HBH.out⟩
      · by_cases hc2 : fll = to
        · subst hc2
          refine wpAnyG_takeL (i := 7) (v := ?v235) (fuel := 12) (listed' := #[true, true, true, true, true, true, true, true, false, false, false, false, false, false, false, false, false, false, false, false]) rfl (by kernel_rfl) (fun _ _ _ h => h) (.inl ⟨by rfl, ?hy235⟩) (by assumption) (by kernel_rfl) ?rest235
          case hy235 => (intro w' hSw; (try dsimp only at hSw); go_simp; try with_reducible rfl)
          try simp only [Act.put, List.setIfInBounds_toArray, List.set_cons_zero, List.set_cons_succ]
          refine wpAnyG_takeL (i := 8) (v := ?v236) (fuel := 11) (listed' := #[true, true, true, true, true, true, true, true, true, false, false, false, false, false, false, false, false, false, false, false]) rfl (by kernel_rfl) (fun _ _ _ h => h) (.inl ⟨by rfl, ?hy236⟩) (by assumption) (by kernel_rfl) ?rest236
          case hy236 => (intro w' hSw; (try dsimp only at hSw); go_simp; try with_reducible rfl)
          try simp only [Act.put, List.setIfInBounds_toArray, List.set_cons_zero, List.set_cons_succ]
          refine wpAnyG_takeL (i := 9) (v := ?v237) (fuel := 10) (listed' := #[true, true, true, true, true, true, true, true, true, true, false, false, false, false, false, false, false, false, false, false]) rfl (by kernel_rfl) (fun _ _ _ h => h) (.inl ⟨by rfl, ?hy237⟩) (by assumption) (by kernel_rfl) ?rest237
          case hy237 => (intro w' hSw; (try dsimp only at hSw); go_simp; try with_reducible rfl)
          try simp only [Act.put, List.setIfInBounds_toArray, List.set_cons_zero, List.set_cons_succ]
          refine wpAnyG_takeL (i := 10) (v := ?v238) (fuel := 9) (listed' := #[true, true, true, true, true, true, true, true, true, true, true, false, false, false, false, false, false, false, false, false]) rfl (by kernel_rfl) (fun _ _ _ h => h) (.inl ⟨by rfl, ?hy238⟩) (by assumption) (by kernel_rfl) ?rest238
          case hy238 => (intro w' hSw; (try dsimp only at hSw); go_simp; try with_reducible rfl)
          try simp only [Act.put, List.setIfInBounds_toArray, List.set_cons_zero, List.set_cons_succ]
          refine wpAnyG_takeL (i := 11) (v := ?v239) (fuel := 8) (listed' := #[true, true, true, true, true, true, true, true, true, true, true, true, false, false, false, false, false, false, false, false]) rfl (by kernel_rfl) (fun _ _ _ h => h) (.inl ⟨by rfl, ?hy239⟩) (by assumption) (by kernel_rfl) ?rest239
          case hy239 => (intro w' hSw; (try dsimp only at hSw); go_simp; try with_reducible rfl)
          try simp only [Act.put, List.setIfInBounds_toArray, List.set_cons_zero, List.set_cons_succ]
          refine wpAnyG_takeL (i := 12) (v := ?v240) (fuel := 7) (listed' := #[true, true, true, true, true, true, true, true, true, true, true, true, true, false, false, false, false, false, false, false]) rfl (by kernel_rfl) (fun _ _ _ h => h) (.inl ⟨by rfl, ?hy240⟩) (by assumption) (by kernel_rfl) ?rest240
          case hy240 => (intro w' hSw; (try dsimp only at hSw); go_simp; try with_reducible rfl)
          try simp only [Act.put, List.setIfInBounds_toArray, List.set_cons_zero, List.set_cons_succ]
          refine wpAnyG_takeL (i := 13) (v := ?v241) (fuel := 6) (listed' := #[true, true, true, true, true, true, true, true, true, true, true, true, true, true, false, false, false, false, false, false]) rfl (by kernel_rfl) (fun _ _ _ h => h) (.inl ⟨by rfl, ?hy241⟩) (by assumption) (by kernel_rfl) ?rest241
          case hy241 => (intro w' hSw; (try dsimp only at hSw); go_simp; try with_reducible rfl)
          try simp only [Act.put, List.setIfInBounds_toArray, List.set_cons_zero, List.set_cons_succ]
          refine wpAnyG_oneL (i := 14) (fuel := 5) (listed' := #[true, true, true, true, true, true, true, true, true, true, true, true, true, true, true, false, false, false, false, false]) rfl (by kernel_rfl) (by kernel_rfl) (by rfl) (fun K hK0 => ?_)
          have hK := Lib.hid hK0
          clear hK0
          go_simp
          refine (HSB.out wf _ _ _ _ _ _ HBF.out (by omega) (by omega) (by first | (right; rfl) | (left; omega)) (by first | (right; rfl) | (left; omega))).mono ?_
          rintro e wg ⟨rfl, hdg⟩
          have HBG := Lib.hid (below_then HBF.out HBF.out.size (hdg.below _))
          clear hdg
          refine hK.out _ _ (.inl (trivial)) ?_
          clear hK K
          try simp only [Act.put, List.setIfInBounds_toArray, List.set_cons_zero, List.set_cons_succ]
          clear hS0
          have hS0 : (fun w' : World => True) wg := trivial
          refine wpAnyG_takeL (i := 15) (v := ?v242) (fuel := 4) (listed' := #[true, true, true, true, true, true, true, true, true, true, true, true, true, true, true, true, false, false, false, false]) rfl (by kernel_rfl) (fun _ _ _ h => h) (.inl ⟨by rfl, ?hy242⟩) (by assumption) (by kernel_rfl) ?rest242
          case hy242 => (intro w' hSw; (try dsimp only at hSw); go_simp; try with_reducible rfl)
          try simp only [Act.put, List.setIfInBounds_toArray, List.set_cons_zero, List.set_cons_succ]
          refine wpAnyG_takeL (i := 16) (v := ?v243) (fuel := 3) (listed' := #[true, true, true, true, true, true, true, true, true, true, true, true, true, true, true, true, true, false, false, false]) rfl (by kernel_rfl) (fun _ _ _ h => h) (.inl ⟨by rfl, ?hy243⟩) (by assumption) (by kernel_rfl) ?rest243
          case hy243 => (intro w' hSw; (try dsimp only at hSw); go_simp; try with_reducible rfl)
          try simp only [Act.put, List.setIfInBounds_toArray, List.set_cons_zero, List.set_cons_succ]
          refine wpAnyG_oneL (i := 17) (fuel := 2) (listed' := #[true, true, true, true, true, true, true, true, true, true, true, true, true, true, true, true, true, true, false, false]) rfl (by kernel_rfl) (by kernel_rfl) (by rfl) (fun K hK0 => ?_)
          have hK := Lib.hid hK0
          clear hK0
          go_simp
          refine (works_any wg).mono ?_
          rintro e wh ⟨rfl, hbh⟩
          have HBH := Lib.hid (below_then HBG.out HBG.out.size hbh)
          clear hbh
          refine hK.out _ _ (.inl (trivial)) ?_
          clear hK K
          try simp only [Act.put, List.setIfInBounds_toArray, List.set_cons_zero, List.set_cons_succ]
          clear hS0
          have hS0 : (fun w' : World => True) wh := trivial
          refine wpAnyG_takeL (i := 18) (v := ?v244) (fuel := 1) (listed' := #[true, true, true, true, true, true, true, true, true, true, true, true, true, true, true, true, true, true, true, false]) rfl (by kernel_rfl) (fun _ _ _ h => h) (.inl ⟨by rfl, ?hy244⟩) (by assumption) (by kernel_rfl) ?rest244
          case hy244 => (intro w' hSw; (try dsimp only at hSw); go_simp; try with_reducible rfl)
          try simp only [Act.put, List.setIfInBounds_toArray, List.set_cons_zero, List.set_cons_succ]
          refine wpAnyG_oneL (i := 19) (fuel := 0) (listed' := #[true, true, true, true, true, true, true, true, true, true, true, true, true, true, true, true, true, true, true, true]) rfl (by kernel_rfl) (by kernel_rfl) (by rfl) (fun K hK0 => ?_)
          have hK := Lib.hid hK0
          clear hK0
          go_simp
          refine hK.out _ _ (.inr (by decide)) ?_
          clear hK K
          refine wpAnyG_done (by kernel_rfl) ?_ _
          clear hS0
          go_wp2_with fail
          go_ret
          exact ⟨rfl, below_then HE.out HE.out.size HBH.out⟩
        · skip
          refine wpAnyG_takeL (i := 7) (v := ?v245) (fuel := 12) (listed' := #[true, true, true, true, true, true, true, true, false, false, false, false, false, false, false, false, false, false, false, false]) rfl (by kernel_rfl) (fun _ _ _ h => h) (.inl ⟨by rfl, ?hy245⟩) (by assumption) (by kernel_rfl) ?rest245
          case hy245 => (intro w' hSw; (try dsimp only at hSw); go_simp; try with_reducible rfl)
          try simp only [Act.put, List.setIfInBounds_toArray, List.set_cons_zero, List.set_cons_succ]
          refine wpAnyG_takeL (i := 8) (v := ?v246) (fuel := 11) (listed' := #[true, true, true, true, true, true, true, true, true, false, false, false, false, false, false, false, false, false, false, false]) rfl (by kernel_rfl) (fun _ _ _ h => h) (.inl ⟨by rfl, ?hy246⟩) (by assumption) (by kernel_rfl) ?rest246
          case hy246 => (intro w' hSw; (try dsimp only at hSw); go_simp; try with_reducible rfl)
          try simp only [Act.put, List.setIfInBounds_toArray, List.set_cons_zero, List.set_cons_succ]
          refine wpAnyG_takeL (i := 9) (v := ?v247) (fuel := 10) (listed' := #[true, true, true, true, true, true, true, true, true, true, false, false, false, false, false, false, false, false, false, false]) rfl (by kernel_rfl) (fun _ _ _ h => h) (.inl ⟨by rfl, ?hy247⟩) (by assumption) (by kernel_rfl) ?rest247
          case hy247 => (intro w' hSw; (try dsimp only at hSw); go_simp; try with_reducible rfl)
          try simp only [Act.put, List.setIfInBounds_toArray, List.set_cons_zero, List.set_cons_succ]
          refine wpAnyG_takeL (i := 10) (v := ?v248) (fuel := 9) (listed' := #[true, true, true, true, true, true, true, true, true, true, true, false, false, false, false, false, false, false, false, false]) rfl (by kernel_rfl) (fun _ _ _ h => h) (.inl ⟨by rfl, ?hy248⟩) (by assumption) (by kernel_rfl) ?rest248
          case hy248 => (intro w' hSw; (try dsimp only at hSw); go_simp; try with_reducible rfl)
          try simp only [Act.put, List.setIfInBounds_toArray, List.set_cons_zero, List.set_cons_succ]
          refine wpAnyG_takeL (i := 11) (v := ?v249) (fuel := 8) (listed' := #[true, true, true, true, true, true, true, true, true, true, true, true, false, false, false, false, false, false, false, false]) rfl (by kernel_rfl) (fun _ _ _ h => h) (.inl ⟨by rfl, ?hy249⟩) (by assumption) (by kernel_rfl) ?rest249
          case hy249 => (intro w' hSw; (try dsimp only at hSw); go_simp; try with_reducible rfl)
          try simp only [Act.put, List.setIfInBounds_toArray, List.set_cons_zero, List.set_cons_succ]
          refine wpAnyG_takeL (i := 12) (v := ?v250) (fuel := 7) (listed' := #[true, true, true, true, true, true, true, true, true, true, true, true, true, false, false, false, false, false, false, false]) rfl (by kernel_rfl) (fun _ _ _ h => h) (.inl ⟨by rfl, ?hy250⟩) (by assumption) (by kernel_rfl) ?rest250
          case hy250 => (intro w' hSw; (try dsimp only at hSw); go_simp; try with_reducible rfl)
          try simp only [Act.put, List.setIfInBounds_toArray, List.set_cons_zero, List.set_cons_succ]
          refine wpAnyG_takeL (i := 13) (v := ?v251) (fuel := 6) (listed' := #[true, true, true, true, true, true, true, true, true, true, true, true, true, true, false, false, false, false, false, false]) rfl (by kernel_rfl) (fun _ _ _ h => h) (.inl ⟨by rfl, ?hy251⟩) (by assumption) (by kernel_rfl) ?rest251
          case hy251 => (intro w' hSw; (try dsimp only at hSw); go_simp; try with_reducible rfl)
          try simp only [Act.put, List.setIfInBounds_toArray, List.set_cons_zero, List.set_cons_succ]
          refine wpAnyG_oneL (i := 14) (fuel := 5) (listed' := #[true, true, true, true, true, true, true, true, true, true, true, true, true, true, true, false, false, false, false, false]) rfl (by kernel_rfl) (by kernel_rfl) (by rfl) (fun K hK0 => ?_)
          have hK := Lib.hid hK0
          clear hK0
          go_simp
          refine (HSB.out wf _ _ _ _ _ _ HBF.out (by omega) (by omega) (by first | (right; rfl) | (left; omega)) (by first | (right; rfl) | (left; omega))).mono ?_
          rintro e wg ⟨rfl, hdg⟩
          have HBG := Lib.hid (below_then HBF.out HBF.out.size (hdg.below _))
          clear hdg
          refine hK.out _ _ (.inl (trivial)) ?_
          clear hK K
          try simp only [Act.put, List.setIfInBounds_toArray, List.set_cons_zero, List.set_cons_succ]
          clear hS0
          have hS0 : (fun w' : World => True) wg := trivial
          refine wpAnyG_takeL (i := 15) (v := ?v252) (fuel := 4) (listed' := #[true, true, true, true, true, true, true, true, true, true, true, true, true, true, true, true, false, false, false, false]) rfl (by kernel_rfl) (fun _ _ _ h => h) (.inl ⟨by rfl, ?hy252⟩) (by assumption) (by kernel_rfl) ?rest252
          case hy252 => (intro w' hSw; (try dsimp only at hSw); go_simp; try with_reducible rfl)
          try simp only [Act.put, List.setIfInBounds_toArray, List.set_cons_zero, List.set_cons_succ]
          refine wpAnyG_takeL (i := 16) (v := ?v253) (fuel := 3) (listed' := #[true, true, true, true, true, true, true, true, true, true, true, true, true, true, true, true, true, false, false, false]) rfl (by kernel_rfl) (fun _ _ _ h => h) (.inl ⟨by rfl, ?hy253⟩) (by assumption) (by kernel_rfl) ?rest253
          case hy253 => (intro w' hSw; (try dsimp only at hSw); go_simp; try with_reducible rfl)
          try simp only [Act.put, List.setIfInBounds_toArray, List.set_cons_zero, List.set_cons_succ]
          refine wpAnyG_oneL (i := 17) (fuel := 2) (listed' := #[true, true, true, true, true, true, true, true, true, true, true, true, true, true, true, true, true, true, false, false]) rfl (by kernel_rfl) (by kernel_rfl) (by rfl) (fun K hK0 => ?_)
          have hK := Lib.hid hK0
          clear hK0
          go_simp
          refine (works_any wg).mono ?_
          rintro e wh ⟨rfl, hbh⟩
          have HBH := Lib.hid (below_then HBG.out HBG.out.size hbh)
          clear hbh
          refine hK.out _ _ (.inl (trivial)) ?_
          clear hK K
          try simp only [Act.put, List.setIfInBounds_toArray, List.set_cons_zero, List.set_cons_succ]
          clear hS0
          have hS0 : (fun w' : World => True) wh := trivial
          refine wpAnyG_takeL (i := 18) (v := ?v254) (fuel := 1) (listed' := #[true, true, true, true, true, true, true, true, true, true, true, true, true, true, true, true, true, true, true, false]) rfl (by kernel_rfl) (fun _ _ _ h => h) (.inl ⟨by rfl, ?hy254⟩) (by assumption) (by kernel_rfl) ?rest254
          case hy254 => (intro w' hSw; (try dsimp only at hSw); go_simp; try with_reducible rfl)
          try simp only [Act.put, List.setIfInBounds_toArray, List.set_cons_zero, List.set_cons_succ]
          refine wpAnyG_oneL (i := 19) (fuel := 0) (listed' := #[true, true, true, true, true, true, true, true, true, true, true, true, true, true, true, true, true, true, true, true]) rfl (by kernel_rfl) (by kernel_rfl) (by rfl) (fun K hK0 => ?_)
          have hK := Lib.hid hK0
          clear hK0
          go_simp
          refine hK.out _ _ (.inr (by decide)) ?_
          clear hK K
          refine wpAnyG_done (by kernel_rfl) ?_ _
          clear hS0
          go_wp2_with fail
          go_ret
          exact ⟨rfl, below_then HE.out HE.out.size HBH.out⟩
  · obtain rfl := hno hm
    have HW := Lib.hid (works_any w1)
    clear hyes hno hb1
    go_wp2_with fail
    refine HW.out.mono ?_
    rintro e w2 ⟨rfl, hb2⟩
    have H2 := Lib.hid (below_then H1.out H1.out.size hb2)
    clear hb2
    go_wp2_with fail
    go_ret
    exact ⟨rfl, H2.out⟩
end Go.Proofs.Ytlcdabmclcfagaa
