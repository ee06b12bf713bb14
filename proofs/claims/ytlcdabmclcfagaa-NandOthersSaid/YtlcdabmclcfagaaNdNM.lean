import Derived.Test.YtlcdabmclcfagaaNdWM
import Derived.Test.YtlcdabmclcfagaaNdRpM
set_option linter.unusedVariables false
set_option linter.unusedSimpArgs false
/- Layer 3: New: contract. -/
namespace Go.Proofs.Ytlcdabmclcfagaa
open Go.RowKit

def mayG (B P S Sp : Int) : Prop := (8 ≤ B ∧ B ≤ 64) ∧ (4 ≤ P ∧ P ≤ 32) ∧ (128 ≤ S ∧ S ≤ 256) ∧ (0 ≤ Sp ∧ Sp ≤ 4)
instance (B P S Sp : Int) : Decidable (mayG B P S Sp) := by unfold mayG; exact inferInstance
def NewEnd (w : World) (B P S Sp : Int) (e : Ending) (w' : World) : Prop :=
  Below w.heap.size w w' ∧ (¬ mayG B P S Sp → e = .returned (.tuple #[.pointer none, .int .i64 2])) ∧ (mayG B P S Sp → ∃ g, e = .returned (.tuple #[.pointer (some ⟨g, 0, none⟩), .int .i64 0]) ∧ PC w' (fsh w w') g (newS B.toNat P.toNat S.toNat Sp.toNat))
theorem newEnd_no {w w' : World} {B P S Sp : Int} (h : ¬ mayG B P S Sp) (hb : Below w.heap.size w w') : NewEnd w B P S Sp (.returned (.tuple #[.pointer none, .int .i64 2])) w' := ⟨hb, fun _ => rfl, fun h' => absurd h' h⟩
theorem newS_ok {B P S Sp : Nat} (h : mayG B P S Sp) : ChOk (newS B P S Sp) := by
  unfold mayG at h
  exact ⟨by show 8 ≤ B; omega, by show B ≤ 64; omega, by show 4 ≤ P; omega, by show P ≤ 32; omega, by show 128 ≤ S; omega, by show S ≤ 256; omega, by show Sp ≤ 4; omega, List.length_replicate, List.length_replicate⟩
theorem newS_row {B P S Sp j : Nat} (h : mayG B P S Sp) (hj : j < B) : (newS B P S Sp).row j = List.replicate (P * S) 255 := by
  have he := (newS_ok h).row_end (i := j) hj
  rw [show (newS B P S Sp).bytes.length = B * (P * S) from List.length_replicate] at he
  unfold Chp.row
  show ((List.replicate (B * (P * S)) (255 : UInt8)).drop (j * (P * S))).take (P * S) = _
  have he' : j * (P * S) + P * S ≤ B * (P * S) := he
  rw [List.drop_replicate, List.take_replicate]
  congr 1
  omega
theorem make_bools (m : Nat) (hn : m ≤ 281474976710656) :
    ∀ W : World, (Instr.makeSlice 54 (.int .i64 (m : Int)) (.int .i64 (m : Int))).run Try.prog W = .ok (.slice (some ⟨W.heap.size, 0, none⟩) m m) (W.alloc (.cells (madeCells #[.bool false] m) 4)) := by
  intro W
  exact run_make_row' 54 4 (.bool false) 1 Try.underlying54 (by kernel_rfl) rfl .i64 .i64 m (by omega) (by omega) W
theorem made_bools (w : World) (m : Nat) : Blk (w.alloc (.cells (madeCells #[.bool false] m) 4)) w.heap.size 4 ((List.replicate m false).map Value.bool ++ []).toArray := by
  unfold Blk
  rw [heap_alloc_new]
  have h : (madeCells #[Value.bool false] m) = ((List.replicate m false).map Value.bool ++ []).toArray := by
    apply Array.toList_inj.1
    rw [toList_madeCells_one]
    simp
  rw [h]

theorem app_sz {j B : Nat} (h : j < B) (hB : B ≤ 64) : j + 1 ≤ maxLen ∧ ((j + 1) + (j + 1) / 4 + 192) * 24 ≤ 281474976710656 := ⟨by unfold maxLen; omega, by omega⟩
set_option maxRecDepth 100000 in
set_option maxHeartbeats 2000000 in
theorem new_any (w : World) (B P S Sp : Int) :
    Calls Try.prog 10 #[.agg #[.int .i64 B, .int .i64 P, .int .i64 S, .int .i64 Sp]] w (NewEnd w B P S Sp) := by
  have hb0 := (Below.refl w.heap.size w).alloc (Nat.le_refl _) (.cells #[.int .i64 B, .int .i64 P, .int .i64 S, .int .i64 Sp] 28)
  have hB0 := Blk.new w 28 #[.int .i64 B, .int .i64 P, .int .i64 S, .int .i64 Sp]
  have k0 := hB0.cell 0
  have k1 := hB0.cell 1
  have k2 := hB0.cell 2
  have k3 := hB0.cell 3
  simp at k0 k1 k2 k3
  have HB0 := Lib.hid hb0
  have HK0 := Lib.hid hB0
  clear hb0 hB0
  obtain ⟨ii, iz, hii, hiz, hi1, hi2, hi3⟩ := bk_info'
  go_enter Try.func10, Try.ntmps10
  go_wp2_with fail
  generalize w.alloc (.cells #[.int .i64 B, .int .i64 P, .int .i64 S, .int .i64 Sp] 28) = w1 at *
  clear k0 k1 k2 k3
  go_loopg [20] 4 (fun k i wr => ∃ j : Nat, j + k = 4 ∧ i = .int .i64 j ∧ Below w1.heap.size w1 wr ∧ (1 ≤ j → (8 ≤ B ∧ B ≤ 64) ∧ (2 ≤ j → (4 ≤ P ∧ P ≤ 32) ∧ (3 ≤ j → (128 ≤ S ∧ S ≤ 256) ∧ (4 ≤ j → (0 ≤ Sp ∧ Sp ≤ 4))))))
  case atStart => exact ⟨0, by omega, rfl, Below.refl _ _, fun h => by omega⟩
  case round =>
    obtain ⟨j, hrel⟩ := hrel
    have hj4 : j = 0 ∨ j = 1 ∨ j = 2 ∨ j = 3 ∨ j = 4 := by omega
    rcases hj4 with rfl | rfl | rfl | rfl | rfl
    · obtain ⟨hj, rfl, hb, hok⟩ := hrel
      have hB := Blk.new wr 72 #[.int .i64 B, .int .i64 8, .int .i64 64]
      have hix : ∀ w' : World, (Instr.index 73 (.agg #[.int .i64 B, .int .i64 8, .int .i64 64, .int .i64 P, .int .i64 4, .int .i64 32, .int .i64 S, .int .i64 128, .int .i64 256, .int .i64 Sp, .int .i64 0, .int .i64 4]) (.int .i64 0)).run Try.prog w' = .ok (.agg #[.int .i64 B, .int .i64 8, .int .i64 64]) w' := fun _ => by kernel_rfl
      have q0 := hB.cell 0
      have q1 := hB.cell 1
      have q2 := hB.cell 2
      simp at q0 q1 q2
      have HX := Lib.hid (And.intro hb (And.intro hok (hb.alloc hb.size (.cells #[.int .i64 B, .int .i64 8, .int .i64 64] 72))))
      clear hB hb hok
      rcases (by omega : B < 8 ∨ (8 ≤ B ∧ 64 < B) ∨ (8 ≤ B ∧ B ≤ 64)) with h1 | ⟨h1, h2⟩ | ⟨h1, h2⟩
      · have t1 : decide (B < 8) = true := decide_eq_true h1
        have HN := Lib.hid (show ¬ mayG B P S Sp from fun h => by unfold mayG at h; omega)
        go_wp2_with fail
        go_ret2
        exact newEnd_no HN.out (below_then HB0.out HB0.out.size HX.out.2.2)
      · have t1 : decide (B < 8) = false := decide_eq_false (by omega)
        have t2 : decide (64 < B) = true := decide_eq_true h2
        have HN := Lib.hid (show ¬ mayG B P S Sp from fun h => by unfold mayG at h; omega)
        go_wp2_with fail
        go_ret2
        exact newEnd_no HN.out (below_then HB0.out HB0.out.size HX.out.2.2)
      · have t1 : decide (B < 8) = false := decide_eq_false (by omega)
        have t2 : decide (64 < B) = false := decide_eq_false (by omega)
        have HO := Lib.hid (And.intro h1 h2)
        go_wp2_with fail
        go_roundg (3)
        case measure => omega
        case rel => exact ⟨1, by omega, by go_num, HX.out.2.2, by intro; have h := HX.out.2.1; have h2 := HO.out; omega⟩
    · obtain ⟨hj, rfl, hb, hok⟩ := hrel
      have hB := Blk.new wr 72 #[.int .i64 P, .int .i64 4, .int .i64 32]
      have hix : ∀ w' : World, (Instr.index 73 (.agg #[.int .i64 B, .int .i64 8, .int .i64 64, .int .i64 P, .int .i64 4, .int .i64 32, .int .i64 S, .int .i64 128, .int .i64 256, .int .i64 Sp, .int .i64 0, .int .i64 4]) (.int .i64 1)).run Try.prog w' = .ok (.agg #[.int .i64 P, .int .i64 4, .int .i64 32]) w' := fun _ => by kernel_rfl
      have q0 := hB.cell 0
      have q1 := hB.cell 1
      have q2 := hB.cell 2
      simp at q0 q1 q2
      have HX := Lib.hid (And.intro hb (And.intro hok (hb.alloc hb.size (.cells #[.int .i64 P, .int .i64 4, .int .i64 32] 72))))
      clear hB hb hok
      rcases (by omega : P < 4 ∨ (4 ≤ P ∧ 32 < P) ∨ (4 ≤ P ∧ P ≤ 32)) with h1 | ⟨h1, h2⟩ | ⟨h1, h2⟩
      · have t1 : decide (P < 4) = true := decide_eq_true h1
        have HN := Lib.hid (show ¬ mayG B P S Sp from fun h => by unfold mayG at h; omega)
        go_wp2_with fail
        go_ret2
        exact newEnd_no HN.out (below_then HB0.out HB0.out.size HX.out.2.2)
      · have t1 : decide (P < 4) = false := decide_eq_false (by omega)
        have t2 : decide (32 < P) = true := decide_eq_true h2
        have HN := Lib.hid (show ¬ mayG B P S Sp from fun h => by unfold mayG at h; omega)
        go_wp2_with fail
        go_ret2
        exact newEnd_no HN.out (below_then HB0.out HB0.out.size HX.out.2.2)
      · have t1 : decide (P < 4) = false := decide_eq_false (by omega)
        have t2 : decide (32 < P) = false := decide_eq_false (by omega)
        have HO := Lib.hid (And.intro h1 h2)
        go_wp2_with fail
        go_roundg (2)
        case measure => omega
        case rel => exact ⟨2, by omega, by go_num, HX.out.2.2, by intro; have h := HX.out.2.1; have h2 := HO.out; omega⟩
    · obtain ⟨hj, rfl, hb, hok⟩ := hrel
      have hB := Blk.new wr 72 #[.int .i64 S, .int .i64 128, .int .i64 256]
      have hix : ∀ w' : World, (Instr.index 73 (.agg #[.int .i64 B, .int .i64 8, .int .i64 64, .int .i64 P, .int .i64 4, .int .i64 32, .int .i64 S, .int .i64 128, .int .i64 256, .int .i64 Sp, .int .i64 0, .int .i64 4]) (.int .i64 2)).run Try.prog w' = .ok (.agg #[.int .i64 S, .int .i64 128, .int .i64 256]) w' := fun _ => by kernel_rfl
      have q0 := hB.cell 0
      have q1 := hB.cell 1
      have q2 := hB.cell 2
      simp at q0 q1 q2
      have HX := Lib.hid (And.intro hb (And.intro hok (hb.alloc hb.size (.cells #[.int .i64 S, .int .i64 128, .int .i64 256] 72))))
      clear hB hb hok
      rcases (by omega : S < 128 ∨ (128 ≤ S ∧ 256 < S) ∨ (128 ≤ S ∧ S ≤ 256)) with h1 | ⟨h1, h2⟩ | ⟨h1, h2⟩
      · have t1 : decide (S < 128) = true := decide_eq_true h1
        have HN := Lib.hid (show ¬ mayG B P S Sp from fun h => by unfold mayG at h; omega)
        go_wp2_with fail
        go_ret2
        exact newEnd_no HN.out (below_then HB0.out HB0.out.size HX.out.2.2)
      · have t1 : decide (S < 128) = false := decide_eq_false (by omega)
        have t2 : decide (256 < S) = true := decide_eq_true h2
        have HN := Lib.hid (show ¬ mayG B P S Sp from fun h => by unfold mayG at h; omega)
        go_wp2_with fail
        go_ret2
        exact newEnd_no HN.out (below_then HB0.out HB0.out.size HX.out.2.2)
      · have t1 : decide (S < 128) = false := decide_eq_false (by omega)
        have t2 : decide (256 < S) = false := decide_eq_false (by omega)
        have HO := Lib.hid (And.intro h1 h2)
        go_wp2_with fail
        go_roundg (1)
        case measure => omega
        case rel => exact ⟨3, by omega, by go_num, HX.out.2.2, by intro; have h := HX.out.2.1; have h2 := HO.out; omega⟩
    · obtain ⟨hj, rfl, hb, hok⟩ := hrel
      have hB := Blk.new wr 72 #[.int .i64 Sp, .int .i64 0, .int .i64 4]
      have hix : ∀ w' : World, (Instr.index 73 (.agg #[.int .i64 B, .int .i64 8, .int .i64 64, .int .i64 P, .int .i64 4, .int .i64 32, .int .i64 S, .int .i64 128, .int .i64 256, .int .i64 Sp, .int .i64 0, .int .i64 4]) (.int .i64 3)).run Try.prog w' = .ok (.agg #[.int .i64 Sp, .int .i64 0, .int .i64 4]) w' := fun _ => by kernel_rfl
      have q0 := hB.cell 0
      have q1 := hB.cell 1
      have q2 := hB.cell 2
      simp at q0 q1 q2
      have HX := Lib.hid (And.intro hb (And.intro hok (hb.alloc hb.size (.cells #[.int .i64 Sp, .int .i64 0, .int .i64 4] 72))))
      clear hB hb hok
      rcases (by omega : Sp < 0 ∨ (0 ≤ Sp ∧ 4 < Sp) ∨ (0 ≤ Sp ∧ Sp ≤ 4)) with h1 | ⟨h1, h2⟩ | ⟨h1, h2⟩
      · have t1 : decide (Sp < 0) = true := decide_eq_true h1
        have HN := Lib.hid (show ¬ mayG B P S Sp from fun h => by unfold mayG at h; omega)
        go_wp2_with fail
        go_ret2
        exact newEnd_no HN.out (below_then HB0.out HB0.out.size HX.out.2.2)
      · have t1 : decide (Sp < 0) = false := decide_eq_false (by omega)
        have t2 : decide (4 < Sp) = true := decide_eq_true h2
        have HN := Lib.hid (show ¬ mayG B P S Sp from fun h => by unfold mayG at h; omega)
        go_wp2_with fail
        go_ret2
        exact newEnd_no HN.out (below_then HB0.out HB0.out.size HX.out.2.2)
      · have t1 : decide (Sp < 0) = false := decide_eq_false (by omega)
        have t2 : decide (4 < Sp) = false := decide_eq_false (by omega)
        have HO := Lib.hid (And.intro h1 h2)
        go_wp2_with fail
        go_roundg (0)
        case measure => omega
        case rel => exact ⟨4, by omega, by go_num, HX.out.2.2, by intro; have h := HX.out.2.1; have h2 := HO.out; omega⟩
    · obtain ⟨hj, rfl, hb, hok⟩ := hrel
      obtain ⟨⟨hB1, hB2⟩, hok⟩ := hok (by omega)
      obtain ⟨⟨hP1, hP2⟩, hok⟩ := hok (by omega)
      obtain ⟨⟨hS1, hS2⟩, hok⟩ := hok (by omega)
      obtain ⟨hp1, hp2⟩ := hok (by omega)
      obtain ⟨B, rfl⟩ : ∃ B' : Nat, B = (B' : Int) := ⟨B.toNat, by omega⟩
      obtain ⟨P, rfl⟩ : ∃ B' : Nat, P = (B' : Int) := ⟨P.toNat, by omega⟩
      obtain ⟨S, rfl⟩ : ∃ B' : Nat, S = (B' : Int) := ⟨S.toNat, by omega⟩
      obtain ⟨Sp, rfl⟩ : ∃ B' : Nat, Sp = (B' : Int) := ⟨Sp.toNat, by omega⟩
      have HMAY := Lib.hid (show mayG B P S Sp from ⟨⟨hB1, hB2⟩, ⟨hP1, hP2⟩, ⟨hS1, hS2⟩, ⟨hp1, hp2⟩⟩)
      have hcs : ∀ w', Below w1.heap.size w1 w' → (w'.cell? ⟨w.heap.size, 0, none⟩ = some (.int .i64 (B : Int)) ∧ w'.cell? ⟨w.heap.size, 1, none⟩ = some (.int .i64 (P : Int)) ∧ w'.cell? ⟨w.heap.size, 2, none⟩ = some (.int .i64 (S : Int)) ∧ w'.cell? ⟨w.heap.size, 3, none⟩ = some (.int .i64 (Sp : Int))) := fun w' hb' => by
        have h1 := HK0.out.below hb' HK0.out.lt
        exact ⟨h1.cell 0, h1.cell 1, h1.cell 2, h1.cell 3⟩
      have HC := Lib.hid hcs
      obtain ⟨wq, hwq⟩ : ∃ wq, wq = wr := ⟨_, rfl⟩
      subst hwq
      have HX := Lib.hid (And.intro trivial (And.intro hb trivial))
      have hmk := make_bools B (by omega)
      clear hj hb hcs hok
      go_wp2_with fail
      refine wp_region_G (fun w' : World => w'.cell? ⟨w.heap.size, 0, none⟩ = some (.int .i64 (B : Int)) ∧ w'.cell? ⟨w.heap.size, 1, none⟩ = some (.int .i64 (P : Int)) ∧ w'.cell? ⟨w.heap.size, 2, none⟩ = some (.int .i64 (S : Int)) ∧ w'.cell? ⟨w.heap.size, 3, none⟩ = some (.int .i64 (Sp : Int))) 6 7 #[false, false, false, false, false, false, false] (by kernel_rfl) rfl (by kernel_rfl) ?_
      have hS0 : (fun w' : World => w'.cell? ⟨w.heap.size, 0, none⟩ = some (.int .i64 (B : Int)) ∧ w'.cell? ⟨w.heap.size, 1, none⟩ = some (.int .i64 (P : Int)) ∧ w'.cell? ⟨w.heap.size, 2, none⟩ = some (.int .i64 (S : Int)) ∧ w'.cell? ⟨w.heap.size, 3, none⟩ = some (.int .i64 (Sp : Int))) wq.drew := HC.out wq.drew (HX.out.2.1.drew)
      dsimp only at hS0
      refine wpAnyG_takeL (i := 0) (v := ?v1) (fuel := 6) (listed' := #[true, false, false, false, false, false, false]) rfl (by kernel_rfl) (fun _ _ _ h => h) (.inl ⟨by rfl, ?hy1⟩) (by assumption) (by kernel_rfl) ?rest1
      case hy1 => (intro w' hSw; (try dsimp only at hSw); go_simp; try with_reducible rfl)
      try simp only [Act.put, List.setIfInBounds_toArray, List.set_cons_zero, List.set_cons_succ]
      refine wpAnyG_takeL (i := 1) (v := ?v2) (fuel := 5) (listed' := #[true, true, false, false, false, false, false]) rfl (by kernel_rfl) (fun _ _ _ h => h) (.inl ⟨by rfl, ?hy2⟩) (by assumption) (by kernel_rfl) ?rest2
      case hy2 => (intro w' hSw; (try dsimp only at hSw); go_simp; try with_reducible rfl)
      try simp only [Act.put, List.setIfInBounds_toArray, List.set_cons_zero, List.set_cons_succ]
      refine wpAnyG_takeL (i := 2) (v := ?v3) (fuel := 4) (listed' := #[true, true, true, false, false, false, false]) rfl (by kernel_rfl) (fun _ _ _ h => h) (.inl ⟨by rfl, ?hy3⟩) (by assumption) (by kernel_rfl) ?rest3
      case hy3 => (intro w' hSw; (try dsimp only at hSw); go_simp; try with_reducible rfl)
      try simp only [Act.put, List.setIfInBounds_toArray, List.set_cons_zero, List.set_cons_succ]
      refine wpAnyG_oneL (i := 3) (fuel := 3) (listed' := #[true, true, true, true, false, false, false]) rfl (by kernel_rfl) (by kernel_rfl) (by rfl) (fun K hK0 => ?_)
      have hK := Lib.hid hK0
      clear hK0
      go_simp
      have hS1 : ∀ o, (fun w' : World => w'.cell? ⟨w.heap.size, 0, none⟩ = some (.int .i64 (B : Int)) ∧ w'.cell? ⟨w.heap.size, 1, none⟩ = some (.int .i64 (P : Int)) ∧ w'.cell? ⟨w.heap.size, 2, none⟩ = some (.int .i64 (S : Int)) ∧ w'.cell? ⟨w.heap.size, 3, none⟩ = some (.int .i64 (Sp : Int))) ((wq.alloc o).drew) := fun o => HC.out _ ((HX.out.2.1.alloc HX.out.2.1.size o).drew)
      dsimp only at hS1
      have HS1 := Lib.hid hS1
      clear hS1
      refine hK.out _ _ (.inl (HS1.out _)) ?_
      clear hK K
      have hS9 := HS1.out (.cells (madeCells #[.bool false] B) 4)
      refine wpAnyG_takeL (i := 4) (v := ?v4) (fuel := 2) (listed' := #[true, true, true, true, true, false, false]) rfl (by kernel_rfl) (fun _ _ _ h => h) (.inl ⟨by rfl, ?hy4⟩) (by assumption) (by kernel_rfl) ?rest4
      case hy4 => (intro w' hSw; (try dsimp only at hSw); go_simp; try with_reducible rfl)
      try simp only [Act.put, List.setIfInBounds_toArray, List.set_cons_zero, List.set_cons_succ]
      refine wpAnyG_oneL (i := 5) (fuel := 1) (listed' := #[true, true, true, true, true, true, false]) rfl (by kernel_rfl) (by kernel_rfl) (by rfl) (fun K hK0 => ?_)
      have hK := Lib.hid hK0
      clear hK0
      go_simp
      refine hK.out _ _ (.inl (HC.out _ (((HX.out.2.1.alloc HX.out.2.1.size _).alloc (Nat.le_trans HX.out.2.1.size (by simp)) _).drew))) ?_
      clear hK K
      refine wpAnyG_oneL (i := 6) (fuel := 0) (listed' := #[true, true, true, true, true, true, true]) rfl (by kernel_rfl) (by kernel_rfl) (by rfl) (fun K hK0 => ?_)
      have hK := Lib.hid hK0
      clear hK0
      go_simp
      refine hK.out _ _ (.inr (by decide)) ?_
      clear hK K
      refine wpAnyG_done (by kernel_rfl) ?_ _
      clear hS0 hS9
      have hkd := (made_bools wq B).alloc (.cells (madeCells_ B P S Sp (.slice none 0 0) wq.heap.size B) 65)
      have hbg := Blk.new (wq.alloc (.cells (madeCells #[.bool false] B) 4)) 65 (madeCells_ B P S Sp (.slice none 0 0) wq.heap.size B)
      rw [alloc_sz] at hbg
      have hb2 := ((HX.out.2.1.alloc HX.out.2.1.size (.cells (madeCells #[.bool false] B) 4)).alloc (Nat.le_trans HX.out.2.1.size (by simp)) (.cells (madeCells_ B P S Sp (.slice none 0 0) wq.heap.size B) 65)).drew
      have hz2 : (((wq.alloc (.cells (madeCells #[.bool false] B) 4)).alloc (.cells (madeCells_ B P S Sp (.slice none 0 0) wq.heap.size B) 65)).drew).heap.size = wq.heap.size + 2 := by
        show ((wq.alloc _).alloc _).heap.size = _
        rw [alloc_sz, alloc_sz]
      have hk1 : w.heap.size ≤ wq.heap.size := by have := HB0.out.size; have := HX.out.2.1.size; omega
      have hlt0 := HK0.out.lt
      have hw1s := HX.out.2.1.size
      have H2 := Lib.hid (And.intro (show Blk (((wq.alloc (.cells (madeCells #[.bool false] B) 4)).alloc (.cells (madeCells_ B P S Sp (.slice none 0 0) wq.heap.size B) 65)).drew) wq.heap.size 4 _ from hkd) (And.intro (show Blk (((wq.alloc (.cells (madeCells #[.bool false] B) 4)).alloc (.cells (madeCells_ B P S Sp (.slice none 0 0) wq.heap.size B) 65)).drew) (wq.heap.size + 1) 65 _ from hbg) hb2))
      unfold madeCells_ at H2 hz2
      clear hkd hbg hb2
      generalize ((wq.alloc (.cells (madeCells #[.bool false] B) 4)).alloc (.cells #[.int .i64 (B : Int), .int .i64 (P : Int), .int .i64 (S : Int), .int .i64 (Sp : Int), .slice none 0 0, .slice (some ⟨wq.heap.size, 0, none⟩) B B, .slice none 0 0, .int .i64 0, .bool false, .int .i64 0] 65)).drew = w2 at *
      generalize hkk : wq.heap.size = kd at *
      obtain ⟨g, hg⟩ : ∃ g, kd + 1 = g := ⟨_, rfl⟩
      rw [hg] at H2 ⊢
      have hg2 : g < w2.heap.size := by omega
      obtain ⟨g0, hg0⟩ : ∃ g0, w.heap.size = g0 := ⟨_, rfl⟩
      rw [hg0] at HC HK0 hlt0 hk1 ⊢
      have HG0 := Lib.hid hg0
      obtain ⟨k0, k1, k2, k3⟩ := HC.out w2 H2.out.2.2
      obtain ⟨N, hN⟩ : ∃ N, P * S = N := ⟨_, rfl⟩
      have hN1 : 4 * 128 ≤ P * S := Nat.mul_le_mul (by omega) (by omega)
      have hN2 : P * S ≤ 32 * 256 := Nat.mul_le_mul (by omega) (by omega)
      rw [hN] at hN1 hN2
      have hmul : (P : Int) * (S : Int) = (N : Int) := by rw [← hN]; simp
      have hwm : IntKind.i64.wrap ((P : Int) * (S : Int)) = (N : Int) := by rw [hmul]; exact IntWalk.i64_in _ (by omega)
      have hB64 : B ≤ 64 := by omega
      have hN' := hN
      have HNN := Lib.hid hN
      clear hmk hg0 hN hN' hmul HX hok
      go_wp2_with fail
      go_loopg [44] B (fun k i wr => ∃ (j : Nat) (v : Value) (ps : List (List UInt8 × Value)), j + k = B ∧ i = .int .i64 j ∧ Blk wr g 65 (madeCells_ B P S Sp v kd B) ∧ OwnBk wr w2.heap.size v j ps ∧ (ps.map (·.1) = (List.range j).map (fun _ => List.replicate N 255)) ∧ (Apt ps ∧ ∀ p ∈ ps, p.1 ≠ []) ∧ w2.grownBy wr (some g))
      case atStart => exact ⟨0, _, [], by omega, rfl, H2.out.2.1, OwnZ.nil _ _, rfl, ⟨Apt.nil, fun _ h => by cases h⟩, World.grownBy.refl _ _⟩
      case round =>
        obtain ⟨j, v, ps, hj, rfl, hbk, hown, hps, hap, hg⟩ := hrel
        have HX := Lib.hid (And.intro hj (And.intro hbk (And.intro hown (And.intro hap (And.intro hps hg)))))
        have hwsz := hg.size
        clear hj hbk hown hps hap hg
        by_cases hlt : j < B
        · have hjI : (j : Int) < (B : Int) := by omega
          have hcw : Below w1.heap.size w1 wr := H2.out.2.2.grown HX.out.2.2.2.2.2 H2.out.2.2.size (fun k e => by injection e with e; omega)
          have hcell : ∀ w', Below wr.heap.size wr w' → w'.cell? ⟨g, 4, none⟩ = some v ∧ w'.cell? ⟨g0, 1, none⟩ = some (.int .i64 (P : Int)) ∧ w'.cell? ⟨g0, 2, none⟩ = some (.int .i64 (S : Int)) := fun w' hb' => by
            have h1 := HX.out.2.1.below hb' HX.out.2.1.lt
            obtain ⟨_, c1, c2, _⟩ := HC.out w' (below_then hcw hcw.size hb')
            exact ⟨h1.cell 4, c1, c2⟩
          have HS := Lib.hid hcell
          have HRP := Lib.hid (fun W (hb : Below wr.heap.size wr W) (hr : RV W (some ⟨wr.heap.size, 0, none⟩) (bv [255])) => repeat_any W (some ⟨wr.heap.size, 0, none⟩) 1 N hr (by omega) (by omega))
          have hn5 : ∀ (w3 : World) (A3 : Option Addr) (cc3 : Nat) (v5 : Value) (w5 : World), Below wr.heap.size wr w3 → (∀ p ∈ ps, p.2.ownBlock ≠ (Value.slice A3 N cc3).ownBlock) → OwnBk w5 w2.heap.size v5 (j + 1) (ps ++ [(List.replicate N 255, .slice A3 N cc3)]) → w3.grownBy w5 v.ownBlock →
              (w5.cell? ⟨g, 4, none⟩ = some v ∧ w5.cell? ⟨g0, 1, none⟩ = some (.int .i64 (P : Int)) ∧ w5.cell? ⟨g0, 2, none⟩ = some (.int .i64 (S : Int))) ∧ w5.frozen? ⟨g, 4, none⟩ = false ∧ Hid (Blk (w5.setCell ⟨g, 4, none⟩ v5) g 65 (madeCells_ B P S Sp v5 kd B) ∧ OwnBk (w5.setCell ⟨g, 4, none⟩ v5) w2.heap.size v5 (j + 1) (ps ++ [(List.replicate N 255, .slice A3 N cc3)]) ∧ ((ps ++ [(List.replicate N (255 : UInt8), Value.slice A3 N cc3)]).map (·.1) = (List.range (j + 1)).map (fun _ => List.replicate N 255)) ∧ (Apt (ps ++ [(List.replicate N 255, .slice A3 N cc3)]) ∧ ∀ p ∈ ps ++ [(List.replicate N (255 : UInt8), Value.slice A3 N cc3)], p.1 ≠ []) ∧ w2.grownBy (w5.setCell ⟨g, 4, none⟩ v5) (some g)) := by
            intro w3 A3 cc3 v5 w5 hb3 hfr ho5 hg5
            obtain ⟨e1, e2, e3, e4, e5⟩ := made_step hg2 HX.out.2.1 HX.out.2.2.1 HX.out.2.2.2.2.2 hb3 ho5 hg5
            have hb5 : Below w1.heap.size w1 w5 := (below_then hcw hcw.size hb3).grown hg5 (by have := hcw.size; have := hb3.size; omega) (fun k e => by have := (HX.out.2.2.1.blk e).1; have := H2.out.2.2.size; omega)
            obtain ⟨_, c1, c2, _⟩ := HC.out w5 hb5
            refine ⟨⟨e1, c1, c2⟩, e2, e3, e4, ?_, ⟨HX.out.2.2.2.1.1.snoc hfr, fun p hp => ?_⟩, e5⟩
            · rw [List.map_append, HX.out.2.2.2.2.1, List.range_succ, List.map_append]
              rfl
            · rcases List.mem_append.1 hp with hp | hp
              · exact HX.out.2.2.2.1.2 p hp
              · rw [List.mem_singleton] at hp
                subst hp
                intro h0
                have := congrArg List.length h0
                simp at this
                omega
          have HN5 := Lib.hid hn5
          have HSZ := Lib.hid (app_sz hlt hB64)
          clear hn5 hcell hcw k0 k1 k2 k3
          go_wp2_with fail
          refine wp_region_G (fun w' : World => w'.cell? ⟨g, 4, none⟩ = some v ∧ w'.cell? ⟨g0, 1, none⟩ = some (.int .i64 (P : Int)) ∧ w'.cell? ⟨g0, 2, none⟩ = some (.int .i64 (S : Int))) 16 17 #[false, false, false, false, false, false, false, false, false, false, false, false, false, false, false, false, false] (by kernel_rfl) rfl (by kernel_rfl) ?_
          have hS0 : (fun w' : World => w'.cell? ⟨g, 4, none⟩ = some v ∧ w'.cell? ⟨g0, 1, none⟩ = some (.int .i64 (P : Int)) ∧ w'.cell? ⟨g0, 2, none⟩ = some (.int .i64 (S : Int))) wr.drew := HS.out wr.drew ((Below.refl wr.heap.size wr).drew)
          dsimp only at hS0
          refine wpAnyG_takeL (i := 0) (v := ?v5) (fuel := 16) (listed' := #[true, false, false, false, false, false, false, false, false, false, false, false, false, false, false, false, false]) rfl (by kernel_rfl) (fun _ _ _ h => h) (.inl ⟨by rfl, ?hy5⟩) (by assumption) (by kernel_rfl) ?rest5
          case hy5 => (intro w' hSw; (try dsimp only at hSw); go_simp; try with_reducible rfl)
          try simp only [Act.put, List.setIfInBounds_toArray, List.set_cons_zero, List.set_cons_succ]
          refine wpAnyG_takeL (i := 1) (v := ?v6) (fuel := 15) (listed' := #[true, true, false, false, false, false, false, false, false, false, false, false, false, false, false, false, false]) rfl (by kernel_rfl) (fun _ _ _ h => h) (.inl ⟨by rfl, ?hy6⟩) (by assumption) (by kernel_rfl) ?rest6
          case hy6 => (intro w' hSw; (try dsimp only at hSw); go_simp; try with_reducible rfl)
          try simp only [Act.put, List.setIfInBounds_toArray, List.set_cons_zero, List.set_cons_succ]
          refine wpAnyG_takeL (i := 2) (v := ?v7) (fuel := 14) (listed' := #[true, true, true, false, false, false, false, false, false, false, false, false, false, false, false, false, false]) rfl (by kernel_rfl) (fun _ _ _ h => h) (.inl ⟨by rfl, ?hy7⟩) (by assumption) (by kernel_rfl) ?rest7
          case hy7 => (intro w' hSw; (try dsimp only at hSw); go_simp; try with_reducible rfl)
          try simp only [Act.put, List.setIfInBounds_toArray, List.set_cons_zero, List.set_cons_succ]
          refine wpAnyG_takeL (i := 3) (v := ?v8) (fuel := 13) (listed' := #[true, true, true, true, false, false, false, false, false, false, false, false, false, false, false, false, false]) rfl (by kernel_rfl) (fun _ _ _ h => h) (.inl ⟨by rfl, ?hy8⟩) (by assumption) (by kernel_rfl) ?rest8
          case hy8 => (intro w' hSw; (try dsimp only at hSw); go_simp; try with_reducible rfl)
          try simp only [Act.put, List.setIfInBounds_toArray, List.set_cons_zero, List.set_cons_succ]
          refine wpAnyG_takeL (i := 4) (v := ?v9) (fuel := 12) (listed' := #[true, true, true, true, true, false, false, false, false, false, false, false, false, false, false, false, false]) rfl (by kernel_rfl) (fun _ _ _ h => h) (.inl ⟨by rfl, ?hy9⟩) (by assumption) (by kernel_rfl) ?rest9
          case hy9 => (intro w' hSw; (try dsimp only at hSw); go_simp; try with_reducible rfl)
          try simp only [Act.put, List.setIfInBounds_toArray, List.set_cons_zero, List.set_cons_succ]
          refine wpAnyG_takeL (i := 6) (v := ?v10) (fuel := 11) (listed' := #[true, true, true, true, true, false, true, false, false, false, false, false, false, false, false, false, false]) rfl (by kernel_rfl) (fun _ _ _ h => h) (.inl ⟨by rfl, ?hy10⟩) (by assumption) (by kernel_rfl) ?rest10
          case hy10 => (intro w' hSw; (try dsimp only at hSw); go_simp; try with_reducible rfl)
          try simp only [Act.put, List.setIfInBounds_toArray, List.set_cons_zero, List.set_cons_succ]
          refine wpAnyG_takeL (i := 7) (v := ?v11) (fuel := 10) (listed' := #[true, true, true, true, true, false, true, true, false, false, false, false, false, false, false, false, false]) rfl (by kernel_rfl) (fun _ _ _ h => h) (.inl ⟨by rfl, ?hy11⟩) (by assumption) (by kernel_rfl) ?rest11
          case hy11 => (intro w' hSw; (try dsimp only at hSw); go_simp; try with_reducible rfl)
          try simp only [Act.put, List.setIfInBounds_toArray, List.set_cons_zero, List.set_cons_succ]
          refine wpAnyG_takeL (i := 8) (v := ?v12) (fuel := 9) (listed' := #[true, true, true, true, true, false, true, true, true, false, false, false, false, false, false, false, false]) rfl (by kernel_rfl) (fun _ _ _ h => h) (.inl ⟨by rfl, ?hy12⟩) (by assumption) (by kernel_rfl) ?rest12
          case hy12 => (intro w' hSw; (try dsimp only at hSw); go_simp; try with_reducible rfl)
          try simp only [Act.put, List.setIfInBounds_toArray, List.set_cons_zero, List.set_cons_succ]
          refine wpAnyG_takeL (i := 9) (v := ?v13) (fuel := 8) (listed' := #[true, true, true, true, true, false, true, true, true, true, false, false, false, false, false, false, false]) rfl (by kernel_rfl) (fun _ _ _ h => h) (.inl ⟨by rfl, ?hy13⟩) (by assumption) (by kernel_rfl) ?rest13
          case hy13 => (intro w' hSw; (try dsimp only at hSw); go_simp; try with_reducible rfl)
          try simp only [Act.put, List.setIfInBounds_toArray, List.set_cons_zero, List.set_cons_succ]
          refine wpAnyG_takeL (i := 10) (v := ?v14) (fuel := 7) (listed' := #[true, true, true, true, true, false, true, true, true, true, true, false, false, false, false, false, false]) rfl (by kernel_rfl) (fun _ _ _ h => h) (.inl ⟨by rfl, ?hy14⟩) (by assumption) (by kernel_rfl) ?rest14
          case hy14 => (intro w' hSw; (try dsimp only at hSw); go_simp; try with_reducible rfl)
          try simp only [Act.put, List.setIfInBounds_toArray, List.set_cons_zero, List.set_cons_succ]
          refine wpAnyG_oneL (i := 5) (fuel := 6) (listed' := #[true, true, true, true, true, true, true, true, true, true, true, false, false, false, false, false, false]) rfl (by kernel_rfl) (by kernel_rfl) (by rfl) (fun K hK0 => ?_)
          have hK := Lib.hid hK0
          clear hK0
          go_simp
          refine hK.out _ _ (.inl (HS.out _ (((Below.refl wr.heap.size wr).alloc (Nat.le_refl _) _).drew))) ?_
          clear hK K
          refine wpAnyG_oneL (i := 11) (fuel := 5) (listed' := #[true, true, true, true, true, true, true, true, true, true, true, true, false, false, false, false, false]) rfl (by kernel_rfl) (by kernel_rfl) (by rfl) (fun K hK0 => ?_)
          have hK := Lib.hid hK0
          clear hK0
          go_simp
          refine (HRP.out _ (((Below.refl wr.heap.size wr).alloc (Nat.le_refl _) _).drew) (show RV ((wr.alloc (.cells #[.int .u8 255] 5)).drew) (some ⟨wr.heap.size, 0, none⟩) (bv [255]) from (RowB.new wr 5 [255]).rv)).mono ?_
          rintro e w3 ⟨v3, rfl, ho3, hb3⟩
          have hb3 : Below wr.heap.size wr w3 := below_then (((Below.refl wr.heap.size wr).alloc (Nat.le_refl _) (.cells #[.int .u8 255] 5)).drew) (by simp) hb3
          have ho3 : OwnB 5 w3 wr.heap.size v3 (List.replicate N 255) := ho3.lower (by simp)
          have hof3 : OffR w3 w2.heap.size v.ownBlock v3 (List.replicate N 255) := offR_new (w := wr) ho3 HX.out.2.2.2.2.2.size (fun k hk => (HX.out.2.2.1.blk hk).2)
          have hfr3 := HX.out.2.2.1.fresh_blk HX.out.2.2.2.1.2 (w' := w3) ho3
          have hown3 := HX.out.2.2.1.below hb3
          obtain ⟨A3, cc3, hv3, _, _, _, _⟩ := ho3.slice
          rw [List.length_replicate] at hv3
          subst hv3
          have H3 := Lib.hid (And.intro hb3 (And.intro hown3 (And.intro hof3 (And.intro hfr3 (HS.out w3 hb3)))))
          have hs3 := hb3.size
          clear hb3 hown3 hof3 hfr3 ho3
          refine hK.out _ _ (.inl H3.out.2.2.2.2) ?_
          clear hK K
          refine wpAnyG_oneL (i := 12) (fuel := 4) (listed' := #[true, true, true, true, true, true, true, true, true, true, true, true, true, false, false, false, false]) rfl (by kernel_rfl) (by kernel_rfl) (by rfl) (fun K hK0 => ?_)
          have hK := Lib.hid hK0
          clear hK0
          go_simp
          refine hK.out _ _ (.inl (HS.out _ (H3.out.1.alloc hs3 _))) ?_
          clear hK K
          refine wpAnyG_oneL (i := 13) (fuel := 3) (listed' := #[true, true, true, true, true, true, true, true, true, true, true, true, true, true, false, false, false]) rfl (by kernel_rfl) (by kernel_rfl) (by rfl) (fun K hK0 => ?_)
          have hK := Lib.hid hK0
          clear hK0
          refine wp_appZ (cell := bkCells) (val := id) (sz := 1) (e := 22) w3 (.tmp 50) (.tmp 58) 63 rfl w2.heap.size ii iz 24 Try.underlying63 hii hiz hi1 hi2 hi3 (by decide) bk_len bk_one v j ps (by rfl) H3.out.2.1 (List.replicate N 255) (.slice A3 N cc3) (by rfl) H3.out.2.2.1 _ (by rfl) ?_ ?_ ?_ ?_
          · exact HSZ.out.1
          · exact HSZ.out.2
          · exact Nat.le_trans hwsz hs3
          intro v5 w5 ho5 hg5
          obtain ⟨hS5, f5, HE5⟩ := HN5.out w3 A3 cc3 v5 w5 H3.out.1 H3.out.2.2.2.1 ho5 hg5
          obtain ⟨A5, cc5, hv5, _, _, _, _⟩ := ho5.slice
          subst hv5
          clear ho5 hg5
          refine hK.out _ _ (.inl hS5) ?_
          clear hK K
          try simp only [Act.put, List.setIfInBounds_toArray, List.set_cons_zero, List.set_cons_succ]
          have c5 := hS5.1
          refine wpAnyG_takeL (i := 14) (v := ?v15) (fuel := 2) (listed' := #[true, true, true, true, true, true, true, true, true, true, true, true, true, true, true, false, false]) rfl (by kernel_rfl) (fun _ _ _ h => h) (.inl ⟨by rfl, ?hy15⟩) (by assumption) (by kernel_rfl) ?rest15
          case hy15 => (intro w' hSw; (try dsimp only at hSw); go_simp; try with_reducible rfl)
          try simp only [Act.put, List.setIfInBounds_toArray, List.set_cons_zero, List.set_cons_succ]
          refine wpAnyG_takeL (i := 15) (v := ?v16) (fuel := 1) (listed' := #[true, true, true, true, true, true, true, true, true, true, true, true, true, true, true, true, false]) rfl (by kernel_rfl) (fun _ _ _ h => h) (.inl ⟨by rfl, ?hy16⟩) (by assumption) (by kernel_rfl) ?rest16
          case hy16 => (intro w' hSw; (try dsimp only at hSw); go_simp; try with_reducible rfl)
          try simp only [Act.put, List.setIfInBounds_toArray, List.set_cons_zero, List.set_cons_succ]
          refine wpAnyG_oneL (i := 16) (fuel := 0) (listed' := #[true, true, true, true, true, true, true, true, true, true, true, true, true, true, true, true, true]) rfl (by kernel_rfl) (by kernel_rfl) (by rfl) (fun K hK0 => ?_)
          have hK := Lib.hid hK0
          clear hK0
          go_simp
          refine hK.out _ _ (.inr (by decide)) ?_
          clear hK K
          refine wpAnyG_done (by kernel_rfl) ?_ _
          go_wp2_with fail
          go_roundg (B - (j + 1))
          case measure => have := HX.out.1; omega
          case rel =>
            obtain ⟨e1, e2, e3, e4, e5⟩ := HE5.out
            exact ⟨j + 1, _, _, by have := HX.out.1; omega, by go_num, e1, e2, e3, e4, e5⟩
        · obtain rfl : j = B := by have := HX.out.1; omega
          have hge : ¬ (j : Int) < (j : Int) := by omega
          have hfin : PC wr (fsh w wr) g (newS j P S Sp) := by
            have hkd := H2.out.1.grown HX.out.2.2.2.2.2 (fun e => by injection e with e; omega)
            have hps := HX.out.2.2.2.2.1
            have hps' : ps.map (·.1) = (List.range j).map (newS j P S Sp).row := by
              rw [hps]
              refine List.map_congr_left fun i hi => ?_
              rw [newS_row HMAY.out (List.mem_range.1 hi), HNN.out]
            have hmk := PCx.make (lo := g0) (base := w2.heap.size) (g := g) (kd := kd) (cd := j) (td := []) (c := newS j P S Sp) (newS_ok HMAY.out) ⟨rfl, rfl, rfl, rfl⟩ HX.out.2.1 HX.out.2.2.1 hps' HX.out.2.2.2.1.1 hkd ⟨rfl, by show j ≤ maxLen; unfold maxLen; omega⟩ ⟨by omega, hg2⟩ ⟨hk1, by omega⟩ (by omega)
            rw [← HG0.out] at hmk
            exact hmk
          have hbw : Below w.heap.size w wr := below_then HB0.out HB0.out.size (H2.out.2.2.grown HX.out.2.2.2.2.2 H2.out.2.2.size (fun k e => by injection e with e; omega))
          have HF := Lib.hid (And.intro hfin hbw)
          clear hfin hbw
          go_wp2_with fail
          go_ret2
          exact ⟨HF.out.2, fun h => absurd HMAY.out h, fun _ => ⟨g, rfl, HF.out.1⟩⟩
end Go.Proofs.Ytlcdabmclcfagaa
