import Derived.Test.YtlcdabmclcfagaaRfNM
import Derived.Test.YtlcdabmclcfagaaNdRM
set_option linter.unusedVariables false
set_option linter.unusedSimpArgs false
/- Layer 3: the document's there, at, Page, Read: contracts. -/
namespace Go.Proofs.Ytlcdabmclcfagaa
open Go.RowKit

set_option maxRecDepth 100000 in
theorem rnew_no (w : World) (B P S Sp : Int) (hm : ¬ mayG B P S Sp) :
    Calls Try.prog 48 #[.agg #[.int .i64 B, .int .i64 P, .int .i64 S, .int .i64 Sp]] w fun e w' => e = .returned (.tuple #[.pointer none, .int .i64 2]) ∧ Below w.heap.size w w' := by
  have hb0 := (Below.refl w.heap.size w).alloc (Nat.le_refl _) (.cells #[.int .i64 B, .int .i64 P, .int .i64 S, .int .i64 Sp] 28)
  have hmay := may_any (w.alloc (.cells #[.int .i64 B, .int .i64 P, .int .i64 S, .int .i64 Sp] 28)) B P S Sp
  rw [decide_eq_false hm] at hmay
  have HM := Lib.hid (And.intro hmay hb0)
  clear hmay hb0
  go_enter Try.func48, Try.ntmps48
  go_wp2_with fail
  refine HM.out.1.mono ?_
  rintro e w2 ⟨rfl, hb2⟩
  have H2 := Lib.hid (below_then HM.out.2 HM.out.2.size hb2)
  clear hb2
  go_wp2_with fail
  go_ret2
  exact ⟨rfl, H2.out⟩
theorem rnew_any (w : World) (B P S Sp : Int) : Calls Try.prog 48 #[.agg #[.int .i64 B, .int .i64 P, .int .i64 S, .int .i64 Sp]] w (RNewEnd w B P S Sp) := by
  by_cases hm : mayG B P S Sp
  · obtain ⟨b, rfl⟩ : ∃ b : Nat, B = b := ⟨B.toNat, by unfold mayG at hm; omega⟩
    obtain ⟨p, rfl⟩ : ∃ p : Nat, P = p := ⟨P.toNat, by unfold mayG at hm; omega⟩
    obtain ⟨s, rfl⟩ : ∃ s : Nat, S = s := ⟨S.toNat, by unfold mayG at hm; omega⟩
    obtain ⟨sp, rfl⟩ : ∃ sp : Nat, Sp = sp := ⟨Sp.toNat, by unfold mayG at hm; omega⟩
    refine (rnew_yes w b p s sp hm).mono ?_
    rintro e w' ⟨hb, g, he, hr⟩
    exact ⟨hb, fun h => absurd hm h, fun _ => ⟨g, he, hr⟩⟩
  · refine (rnew_no w B P S Sp hm).mono ?_
    rintro e w' ⟨he, hb⟩
    exact ⟨hb, fun _ => he, fun h => absurd h hm⟩

set_option maxRecDepth 100000 in
set_option maxHeartbeats 1000000 in
theorem there_any {w : World} {F : Nat → Prop} {r : Nat} {L : RLay} {c : Chp} (h : RCx w F r L c) (b p : Int) :
    Calls Try.prog 51 #[.pointer (some ⟨r, 0, none⟩), .int .i64 b, .int .i64 p] w fun e w' => e = .returned (.bool (decide (thereS c b p))) ∧ w' = w := by
  obtain ⟨c0, c1, c2, c3, c4, c5, c6, c7, c8, c9⟩ := h.cells
  clear c2 c3 c4 c5 c6 c7 c8 c9 h
  by_cases h0 : 0 ≤ b
  · by_cases h1 : b < (c.B : Int)
    · by_cases h2 : 0 ≤ p
      · by_cases h3 : p < (c.P : Int)
        · have t0 : decide ((0 : Int) ≤ b) = true := decide_eq_true h0
          have t1 : decide (b < (c.B : Int)) = true := decide_eq_true h1
          have t2 : decide ((0 : Int) ≤ p) = true := decide_eq_true h2
          have t3 : decide (p < (c.P : Int)) = true := decide_eq_true h3
          rw [show decide (thereS c b p) = true from decide_eq_true ⟨h0, h1, h2, h3⟩]
          go_enter Try.func51, Try.ntmps51
          go_wp2_with fail
          go_ret
          exact ⟨rfl, rfl⟩
        · have t0 : decide ((0 : Int) ≤ b) = true := decide_eq_true h0
          have t1 : decide (b < (c.B : Int)) = true := decide_eq_true h1
          have t2 : decide ((0 : Int) ≤ p) = true := decide_eq_true h2
          have t3 : decide (p < (c.P : Int)) = false := decide_eq_false h3
          rw [show decide (thereS c b p) = false from decide_eq_false (fun hh => h3 hh.2.2.2)]
          go_enter Try.func51, Try.ntmps51
          go_wp2_with fail
          go_ret
          exact ⟨rfl, rfl⟩
      · have t0 : decide ((0 : Int) ≤ b) = true := decide_eq_true h0
        have t1 : decide (b < (c.B : Int)) = true := decide_eq_true h1
        have t2 : decide ((0 : Int) ≤ p) = false := decide_eq_false h2
        rw [show decide (thereS c b p) = false from decide_eq_false (fun hh => h2 hh.2.2.1)]
        go_enter Try.func51, Try.ntmps51
        go_wp2_with fail
        go_ret
        exact ⟨rfl, rfl⟩
    · have t0 : decide ((0 : Int) ≤ b) = true := decide_eq_true h0
      have t1 : decide (b < (c.B : Int)) = false := decide_eq_false h1
      rw [show decide (thereS c b p) = false from decide_eq_false (fun hh => h1 hh.2.1)]
      go_enter Try.func51, Try.ntmps51
      go_wp2_with fail
      go_ret
      exact ⟨rfl, rfl⟩
  · have t0 : decide ((0 : Int) ≤ b) = false := decide_eq_false h0
    rw [show decide (thereS c b p) = false from decide_eq_false (fun hh => h0 hh.1)]
    go_enter Try.func51, Try.ntmps51
    go_wp2_with fail
    go_ret
    exact ⟨rfl, rfl⟩

set_option maxRecDepth 100000 in
set_option maxHeartbeats 1000000 in
theorem at_any {w : World} {F : Nat → Prop} {r : Nat} {L : RLay} {c : Chp} (h : RCx w F r L c) {b p : Nat} (hb : b < c.B) (hp : p < c.P) :
    Calls Try.prog 55 #[.pointer (some ⟨r, 0, none⟩), .int .i64 (b : Int), .int .i64 (p : Int)] w fun e w' => e = .returned (.int .i64 ((b * c.N + p * c.S : Nat) : Int)) ∧ Drawn w w' := by
  obtain ⟨c0, c1, c2, c3, c4, c5, c6, c7, c8, c9⟩ := h.cells
  obtain ⟨e1, e2, e3⟩ := h.ok.page_end hb hp
  have h1 := h.ok.n.2.2
  have h2 := h.ok.len
  have h3 := h.ok.s1
  have h4 : b * c.P + p ≤ (b * c.P + p) * c.S := Nat.le_mul_of_pos_right _ (by omega)
  have h5 : b * c.P ≤ b * c.P + p := by omega
  rw [← e2]
  have m1 : ((b : Int) * (c.P : Int)) = ((b * c.P : Nat) : Int) := by simp
  have hw1 : IntKind.i64.wrap ((b : Int) * (c.P : Int)) = ((b * c.P : Nat) : Int) := by rw [m1]; exact IntWalk.i64_in _ (by omega)
  have hw2 : IntKind.i64.wrap (((b * c.P : Nat) : Int) + (p : Int)) = ((b * c.P + p : Nat) : Int) := by rw [show ((b * c.P : Nat) : Int) + (p : Int) = ((b * c.P + p : Nat) : Int) by simp]; exact IntWalk.i64_in _ (by omega)
  have m3 : (((b * c.P + p : Nat) : Int) * (c.S : Int)) = (((b * c.P + p) * c.S : Nat) : Int) := by simp
  have hw3 : IntKind.i64.wrap (((b * c.P + p : Nat) : Int) * (c.S : Int)) = (((b * c.P + p) * c.S : Nat) : Int) := by rw [m3]; exact IntWalk.i64_in _ (by omega)
  generalize (b * c.P + p) * c.S = X at *
  generalize b * c.P + p = Y at *
  generalize b * c.P = Z at *
  clear c0 c3 c4 c5 c6 c7 c8 c9 h e1 e2 e3 h1 h2 h3 h4 h5 m1 m3
  go_enter Try.func55, Try.ntmps55
  go_wp2_with fail
  go_quiet (fail)
  go_wp2_with fail
  go_ret
  exact ⟨rfl, Drawn.mk _ _⟩

set_option maxRecDepth 100000 in
set_option maxHeartbeats 2000000 in
theorem rpage_any {w : World} {F : Nat → Prop} {r : Nat} {L : RLay} {c : Chp} (h : RCx w F r L c) {b p : Nat} (hb : b < c.B) (hp : p < c.P) :
    Calls Try.prog 53 #[.pointer (some ⟨r, 0, none⟩), .int .i64 (b : Int), .int .i64 (p : Int)] w fun e w' => ∃ v, e = .returned v ∧ OwnB 5 w' w.heap.size v (seg c.bytes (b * c.N + p * c.S) c.S) ∧ Below w.heap.size w w' := by
  obtain ⟨e1, e2, e3⟩ := h.ok.page_end hb hp
  have hat := at_any h hb hp
  have hcb := h.cb
  have hle := h.ok.len
  have hS2 := h.ok.s2
  have hS1 := h.ok.s1
  have hrv := (h.kb).rv
  have hl : (seg c.bytes (b * c.N + p * c.S) c.S).length = c.S := seg_len (by rw [← e2]; exact e3)
  have hys : RV w (some ⟨L.kb, b * c.N + p * c.S, none⟩) (bv (seg c.bytes (b * c.N + p * c.S) c.S)) := by
    have h1 := (h.kb.rvAt (b * c.N + p * c.S)).take c.S
    rw [← bv_take] at h1
    have he : ((c.bytes ++ L.tb).drop (b * c.N + p * c.S)).take c.S = seg c.bytes (b * c.N + p * c.S) c.S := by
      unfold seg
      rw [List.drop_append_of_le_length (by rw [← e2]; omega), List.take_append_of_le_length (by rw [List.length_drop, ← e2]; omega)]
    rwa [he] at h1
  have hbound : b * c.N + p * c.S + c.S ≤ c.B * c.N + L.tb.length := by omega
  have HCC := Lib.hid (show ∀ w', Below w.heap.size w w' → w'.cell? ⟨r, 4, none⟩ = some (.slice (some ⟨L.kb, 0, none⟩) (c.B * c.N) (c.B * c.N + L.tb.length)) ∧ w'.cell? ⟨r, 2, none⟩ = some (.int .i64 (c.S : Int)) from fun w' hb' => ⟨(h.below hb').cells.2.2.2.2.1, (h.below hb').cells.2.2.1⟩)
  generalize b * c.N + p * c.S = O at *
  generalize seg c.bytes O c.S = ys at *
  have HY := Lib.hid (And.intro hl hys)
  generalize c.B * c.N = M at *
  generalize c.S = S at *
  generalize M + L.tb.length = cap at *
  generalize L.kb = kb at *
  have HC := Lib.hid (show ∀ w', Below w.heap.size w w' → (fun w' : World => w'.cell? ⟨r, 4, none⟩ = some (.slice (some ⟨kb, 0, none⟩) M cap) ∧ w'.cell? ⟨r, 2, none⟩ = some (.int .i64 (S : Int))) w' from HCC.out)
  have HA := Lib.hid hat
  have g0 : (0 : Int) ≤ (O : Int) := by omega
  have g1 : (0 : Int) ≤ (O : Int) + (S : Int) := by omega
  have g2 : (O : Int) + (S : Int) ≤ (cap : Int) := by omega
  have g3 : O ≤ ((O : Int) + (S : Int)).toNat := by omega
  have g4 : ¬ cap = O := by omega
  have hw : IntKind.i64.wrap ((O : Int) + (S : Int)) = (O : Int) + (S : Int) := IntWalk.i64_in _ (by unfold maxLen at hcb; omega)
  clear h hat hcb hle hrv hl hys e1 e2 e3 HCC
  go_enter Try.func53, Try.ntmps53
  go_wp2_with fail
  refine HA.out.mono ?_
  rintro e w1 ⟨rfl, hd⟩
  have H1 := Lib.hid (hd.below w.heap.size)
  clear hd HA
  go_wp2_with fail
  refine wp_region_G (fun w' : World => w'.cell? ⟨r, 4, none⟩ = some (.slice (some ⟨kb, 0, none⟩) M cap) ∧ w'.cell? ⟨r, 2, none⟩ = some (.int .i64 (S : Int))) 15 16 #[false, false, false, false, false, false, false, false, false, false, false, false, false, false, false, false] (by kernel_rfl) rfl (by kernel_rfl) ?_
  have hS0 : (fun w' : World => w'.cell? ⟨r, 4, none⟩ = some (.slice (some ⟨kb, 0, none⟩) M cap) ∧ w'.cell? ⟨r, 2, none⟩ = some (.int .i64 (S : Int))) w1.drew := HC.out _ H1.out.drew
  dsimp only at hS0
  refine wpAnyG_takeL (i := 0) (v := ?v1) (fuel := 15) (listed' := #[true, false, false, false, false, false, false, false, false, false, false, false, false, false, false, false]) rfl (by kernel_rfl) (fun _ _ _ h => h) (.inl ⟨by rfl, ?hy1⟩) (by assumption) (by kernel_rfl) ?rest1
  case hy1 => (intro w' hSw; (try dsimp only at hSw); go_simp; try with_reducible rfl)
  try simp only [Act.put, List.setIfInBounds_toArray, List.set_cons_zero, List.set_cons_succ]
  refine wpAnyG_takeL (i := 1) (v := ?v2) (fuel := 14) (listed' := #[true, true, false, false, false, false, false, false, false, false, false, false, false, false, false, false]) rfl (by kernel_rfl) (fun _ _ _ h => h) (.inl ⟨by rfl, ?hy2⟩) (by assumption) (by kernel_rfl) ?rest2
  case hy2 => (intro w' hSw; (try dsimp only at hSw); go_simp; try with_reducible rfl)
  try simp only [Act.put, List.setIfInBounds_toArray, List.set_cons_zero, List.set_cons_succ]
  refine wpAnyG_takeL (i := 2) (v := ?v3) (fuel := 13) (listed' := #[true, true, true, false, false, false, false, false, false, false, false, false, false, false, false, false]) rfl (by kernel_rfl) (fun _ _ _ h => h) (.inl ⟨by rfl, ?hy3⟩) (by assumption) (by kernel_rfl) ?rest3
  case hy3 => (intro w' hSw; (try dsimp only at hSw); go_simp; try with_reducible rfl)
  try simp only [Act.put, List.setIfInBounds_toArray, List.set_cons_zero, List.set_cons_succ]
  refine wpAnyG_takeL (i := 3) (v := ?v4) (fuel := 12) (listed' := #[true, true, true, true, false, false, false, false, false, false, false, false, false, false, false, false]) rfl (by kernel_rfl) (fun _ _ _ h => h) (.inl ⟨by rfl, ?hy4⟩) (by assumption) (by kernel_rfl) ?rest4
  case hy4 => (intro w' hSw; (try dsimp only at hSw); go_simp; try with_reducible rfl)
  try simp only [Act.put, List.setIfInBounds_toArray, List.set_cons_zero, List.set_cons_succ]
  refine wpAnyG_takeL (i := 4) (v := ?v5) (fuel := 11) (listed' := #[true, true, true, true, true, false, false, false, false, false, false, false, false, false, false, false]) rfl (by kernel_rfl) (fun _ _ _ h => h) (.inl ⟨by rfl, ?hy5⟩) (by assumption) (by kernel_rfl) ?rest5
  case hy5 => (intro w' hSw; (try dsimp only at hSw); go_simp; try with_reducible rfl)
  try simp only [Act.put, List.setIfInBounds_toArray, List.set_cons_zero, List.set_cons_succ]
  refine wpAnyG_takeL (i := 5) (v := ?v6) (fuel := 10) (listed' := #[true, true, true, true, true, true, false, false, false, false, false, false, false, false, false, false]) rfl (by kernel_rfl) (fun _ _ _ h => h) (.inl ⟨by rfl, ?hy6⟩) (by assumption) (by kernel_rfl) ?rest6
  case hy6 => (intro w' hSw; (try dsimp only at hSw); go_simp; try with_reducible rfl)
  try simp only [Act.put, List.setIfInBounds_toArray, List.set_cons_zero, List.set_cons_succ]
  refine wpAnyG_takeL (i := 6) (v := ?v7) (fuel := 9) (listed' := #[true, true, true, true, true, true, true, false, false, false, false, false, false, false, false, false]) rfl (by kernel_rfl) (fun _ _ _ h => h) (.inl ⟨by rfl, ?hy7⟩) (by assumption) (by kernel_rfl) ?rest7
  case hy7 => (intro w' hSw; (try dsimp only at hSw); go_simp; try with_reducible rfl)
  try simp only [Act.put, List.setIfInBounds_toArray, List.set_cons_zero, List.set_cons_succ]
  refine wpAnyG_takeL (i := 7) (v := ?v8) (fuel := 8) (listed' := #[true, true, true, true, true, true, true, true, false, false, false, false, false, false, false, false]) rfl (by kernel_rfl) (fun _ _ _ h => h) (.inl ⟨by rfl, ?hy8⟩) (by assumption) (by kernel_rfl) ?rest8
  case hy8 => (intro w' hSw; (try dsimp only at hSw); go_simp; try with_reducible rfl)
  try simp only [Act.put, List.setIfInBounds_toArray, List.set_cons_zero, List.set_cons_succ]
  refine wpAnyG_takeL (i := 8) (v := ?v9) (fuel := 7) (listed' := #[true, true, true, true, true, true, true, true, true, false, false, false, false, false, false, false]) rfl (by kernel_rfl) (fun _ _ _ h => h) (.inl ⟨by rfl, ?hy9⟩) (by assumption) (by kernel_rfl) ?rest9
  case hy9 => (intro w' hSw; (try dsimp only at hSw); go_simp; try with_reducible rfl)
  try simp only [Act.put, List.setIfInBounds_toArray, List.set_cons_zero, List.set_cons_succ]
  refine wpAnyG_takeL (i := 9) (v := ?v10) (fuel := 6) (listed' := #[true, true, true, true, true, true, true, true, true, true, false, false, false, false, false, false]) rfl (by kernel_rfl) (fun _ _ _ h => h) (.inl ⟨by rfl, ?hy10⟩) (by assumption) (by kernel_rfl) ?rest10
  case hy10 => (intro w' hSw; (try dsimp only at hSw); go_simp; try with_reducible rfl)
  try simp only [Act.put, List.setIfInBounds_toArray, List.set_cons_zero, List.set_cons_succ]
  refine wpAnyG_takeL (i := 10) (v := ?v11) (fuel := 5) (listed' := #[true, true, true, true, true, true, true, true, true, true, true, false, false, false, false, false]) rfl (by kernel_rfl) (fun _ _ _ h => h) (.inl ⟨by rfl, ?hy11⟩) (by assumption) (by kernel_rfl) ?rest11
  case hy11 => (intro w' hSw; (try dsimp only at hSw); go_simp; try with_reducible rfl)
  try simp only [Act.put, List.setIfInBounds_toArray, List.set_cons_zero, List.set_cons_succ]
  refine wpAnyG_takeL (i := 11) (v := ?v12) (fuel := 4) (listed' := #[true, true, true, true, true, true, true, true, true, true, true, true, false, false, false, false]) rfl (by kernel_rfl) (fun _ _ _ h => h) (.inl ⟨by rfl, ?hy12⟩) (by assumption) (by kernel_rfl) ?rest12
  case hy12 => (intro w' hSw; (try dsimp only at hSw); go_simp; try with_reducible rfl)
  try simp only [Act.put, List.setIfInBounds_toArray, List.set_cons_zero, List.set_cons_succ]
  refine wpAnyG_takeL (i := 12) (v := ?v13) (fuel := 3) (listed' := #[true, true, true, true, true, true, true, true, true, true, true, true, true, false, false, false]) rfl (by kernel_rfl) (fun _ _ _ h => h) (.inl ⟨by rfl, ?hy13⟩) (by assumption) (by kernel_rfl) ?rest13
  case hy13 => (intro w' hSw; (try dsimp only at hSw); go_simp; try with_reducible rfl)
  try simp only [Act.put, List.setIfInBounds_toArray, List.set_cons_zero, List.set_cons_succ]
  refine wpAnyG_takeL (i := 13) (v := ?v14) (fuel := 2) (listed' := #[true, true, true, true, true, true, true, true, true, true, true, true, true, true, false, false]) rfl (by kernel_rfl) (fun _ _ _ h => h) (.inl ⟨by rfl, ?hy14⟩) (by assumption) (by kernel_rfl) ?rest14
  case hy14 => (intro w' hSw; (try dsimp only at hSw); go_simp; try with_reducible rfl)
  try simp only [Act.put, List.setIfInBounds_toArray, List.set_cons_zero, List.set_cons_succ]
  refine wpAnyG_oneL (i := 14) (fuel := 1) (listed' := #[true, true, true, true, true, true, true, true, true, true, true, true, true, true, true, false]) rfl (by kernel_rfl) (by kernel_rfl) (by rfl) (fun K hK0 => ?_)
  have hK := Lib.hid hK0
  clear hK0
  refine wp_appB w1.drew (.tmp 13) (.tmp 26) 22 rfl w.heap.size 5 Try.underlying22 u8info (.slice none 0 0) [] (by rfl) (OwnB.nil _ _ _) (some ⟨kb, O, none⟩) _ _ ys (by rfl) (by rw [HY.out.1]; clear HY HC; omega) (HY.out.2.below H1.out.drew) (by rw [HY.out.1]; show 0 + S ≤ _; omega) H1.out.size ?_
  intro v' w' ho hg _
  have hb : Below w.heap.size w w' := H1.out.drew.grown hg H1.out.size (fun k hk => by cases hk)
  have HF := Lib.hid (And.intro ho hb)
  refine hK.out _ _ (.inl (HC.out _ hb)) ?_
  clear hK K ho hg hb
  try simp only [Act.put, List.setIfInBounds_toArray, List.set_cons_zero, List.set_cons_succ]
  refine wpAnyG_oneL (i := 15) (fuel := 0) (listed' := #[true, true, true, true, true, true, true, true, true, true, true, true, true, true, true, true]) rfl (by kernel_rfl) (by kernel_rfl) (by rfl) (fun K hK0 => ?_)
  have hK := Lib.hid hK0
  clear hK0
  go_simp
  refine hK.out _ _ (.inr (by decide)) ?_
  clear hK K
  refine wpAnyG_done (by kernel_rfl) ?_ _
  go_wp2_with fail
  go_ret
  exact ⟨_, rfl, HF.out.1, HF.out.2⟩

set_option maxRecDepth 100000 in
set_option maxHeartbeats 1000000 in
theorem rread_any {w : World} {F : Nat → Prop} {r : Nat} {L : RLay} {c : Chp} (h : RCx w F r L c) (b p : Int) :
    Calls Try.prog 62 #[.pointer (some ⟨r, 0, none⟩), .int .i64 b, .int .i64 p] w (ReadEnd w (readS c b p)) := by
  obtain ⟨c0, c1, c2, c3, c4, c5, c6, c7, c8, c9⟩ := h.cells
  clear c0 c1 c2 c3 c4 c5 c6 c7 c9
  by_cases hd : c.dead = true
  · have hr : readS c b p = ([], 10) := by
      have : askS c b p = 10 := by unfold askS; rw [if_pos hd]
      unfold readS
      rw [this, if_pos (by decide)]
    rw [hr]
    rw [hd] at c8
    go_enter Try.func62, Try.ntmps62
    go_wp2_with fail
    go_ret2
    exact ⟨_, rfl, OwnB.nil _ _ _, Below.refl _ _⟩
  · have hd' : c.dead = false := by simpa using hd
    rw [hd'] at c8
    have HT := Lib.hid (there_any h b p)
    by_cases ht : thereS c b p
    · rw [decide_eq_true ht] at HT
      have hr : readS c b p = (seg c.bytes (b.toNat * c.N + p.toNat * c.S) c.S, 0) := by
        have : askS c b p = 0 := by unfold askS; rw [if_neg hd, if_pos ht]
        unfold readS
        rw [this, if_neg (by decide)]
      rw [hr]
      obtain ⟨b', rfl⟩ : ∃ b' : Nat, b = b' := ⟨b.toNat, by unfold thereS at ht; omega⟩
      obtain ⟨p', rfl⟩ : ∃ p' : Nat, p = p' := ⟨p.toNat, by unfold thereS at ht; omega⟩
      have HP := Lib.hid (rpage_any h (b := b') (p := p') (by unfold thereS at ht; omega) (by unfold thereS at ht; omega))
      simp only [Int.toNat_natCast]
      clear hr ht h
      go_enter Try.func62, Try.ntmps62
      go_wp2_with fail
      refine HT.out.mono ?_
      rintro e w1 ⟨rfl, rfl⟩
      go_wp2_with fail
      refine HP.out.mono ?_
      rintro e w2 ⟨v, rfl, ho, hb⟩
      have HF := Lib.hid (And.intro ho hb)
      clear ho hb
      go_wp2_with fail
      go_ret2
      exact ⟨v, rfl, HF.out.1, HF.out.2⟩
    · rw [decide_eq_false ht] at HT
      have hr : readS c b p = ([], 2) := by
        have : askS c b p = 2 := by unfold askS; rw [if_neg hd, if_neg ht]
        unfold readS
        rw [this, if_pos (by decide)]
      rw [hr]
      clear hr h
      go_enter Try.func62, Try.ntmps62
      go_wp2_with fail
      refine HT.out.mono ?_
      rintro e w1 ⟨rfl, rfl⟩
      go_wp2_with fail
      go_ret2
      exact ⟨_, rfl, OwnB.nil _ _ _, Below.refl _ _⟩
end Go.Proofs.Ytlcdabmclcfagaa
