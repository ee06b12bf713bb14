import Derived.Test.YtlcdabmclcfagaaNdMM
import Derived.Test.YtlcdabmclcfagaaNdNM
import Derived.Test.YtlcdabmclcfagaaMOrd
set_option linter.unusedVariables false
set_option linter.unusedSimpArgs false
/- Layer 3: the document's May, all, New: contracts. -/
namespace Go.Proofs.Ytlcdabmclcfagaa
open Go.RowKit

set_option maxRecDepth 100000 in
set_option maxHeartbeats 1000000 in
theorem may_any (w : World) (B P S Sp : Int) :
    Calls Try.prog 59 #[.agg #[.int .i64 B, .int .i64 P, .int .i64 S, .int .i64 Sp]] w fun e w' => e = .returned (.bool (decide (mayG B P S Sp))) ∧ Below w.heap.size w w' := by
  have HB := Lib.hid ((Below.refl w.heap.size w).alloc (Nat.le_refl _) (.cells #[.int .i64 B, .int .i64 P, .int .i64 S, .int .i64 Sp] 28))
  by_cases h0 : 8 ≤ B
  · by_cases h1 : B ≤ 64
    · by_cases h2 : 4 ≤ P
      · by_cases h3 : P ≤ 32
        · by_cases h4 : 128 ≤ S
          · by_cases h5 : S ≤ 256
            · by_cases h6 : 0 ≤ Sp
              · by_cases h7 : Sp ≤ 4
                · have t0 : decide ((8 ≤ B : Prop)) = true := decide_eq_true h0
                  have t1 : decide ((B ≤ 64 : Prop)) = true := decide_eq_true h1
                  have t2 : decide ((4 ≤ P : Prop)) = true := decide_eq_true h2
                  have t3 : decide ((P ≤ 32 : Prop)) = true := decide_eq_true h3
                  have t4 : decide ((128 ≤ S : Prop)) = true := decide_eq_true h4
                  have t5 : decide ((S ≤ 256 : Prop)) = true := decide_eq_true h5
                  have t6 : decide ((0 ≤ Sp : Prop)) = true := decide_eq_true h6
                  have t7 : decide ((Sp ≤ 4 : Prop)) = true := decide_eq_true h7
                  have hd : decide (mayG B P S Sp) = true := decide_eq_true (by unfold mayG; omega)
                  rw [hd]
                  clear hd
                  go_enter Try.func59, Try.ntmps59
                  go_wp2_with fail
                  go_ret
                  exact ⟨rfl, HB.out⟩
                · have t0 : decide ((8 ≤ B : Prop)) = true := decide_eq_true h0
                  have t1 : decide ((B ≤ 64 : Prop)) = true := decide_eq_true h1
                  have t2 : decide ((4 ≤ P : Prop)) = true := decide_eq_true h2
                  have t3 : decide ((P ≤ 32 : Prop)) = true := decide_eq_true h3
                  have t4 : decide ((128 ≤ S : Prop)) = true := decide_eq_true h4
                  have t5 : decide ((S ≤ 256 : Prop)) = true := decide_eq_true h5
                  have t6 : decide ((0 ≤ Sp : Prop)) = true := decide_eq_true h6
                  have t7 : decide ((Sp ≤ 4 : Prop)) = false := decide_eq_false h7
                  have hd : decide (mayG B P S Sp) = false := decide_eq_false (by unfold mayG; omega)
                  rw [hd]
                  clear hd
                  go_enter Try.func59, Try.ntmps59
                  go_wp2_with fail
                  go_ret
                  exact ⟨rfl, HB.out⟩
              · have t0 : decide ((8 ≤ B : Prop)) = true := decide_eq_true h0
                have t1 : decide ((B ≤ 64 : Prop)) = true := decide_eq_true h1
                have t2 : decide ((4 ≤ P : Prop)) = true := decide_eq_true h2
                have t3 : decide ((P ≤ 32 : Prop)) = true := decide_eq_true h3
                have t4 : decide ((128 ≤ S : Prop)) = true := decide_eq_true h4
                have t5 : decide ((S ≤ 256 : Prop)) = true := decide_eq_true h5
                have t6 : decide ((0 ≤ Sp : Prop)) = false := decide_eq_false h6
                have hd : decide (mayG B P S Sp) = false := decide_eq_false (by unfold mayG; omega)
                rw [hd]
                clear hd
                go_enter Try.func59, Try.ntmps59
                go_wp2_with fail
                go_ret
                exact ⟨rfl, HB.out⟩
            · have t0 : decide ((8 ≤ B : Prop)) = true := decide_eq_true h0
              have t1 : decide ((B ≤ 64 : Prop)) = true := decide_eq_true h1
              have t2 : decide ((4 ≤ P : Prop)) = true := decide_eq_true h2
              have t3 : decide ((P ≤ 32 : Prop)) = true := decide_eq_true h3
              have t4 : decide ((128 ≤ S : Prop)) = true := decide_eq_true h4
              have t5 : decide ((S ≤ 256 : Prop)) = false := decide_eq_false h5
              have hd : decide (mayG B P S Sp) = false := decide_eq_false (by unfold mayG; omega)
              rw [hd]
              clear hd
              go_enter Try.func59, Try.ntmps59
              go_wp2_with fail
              go_ret
              exact ⟨rfl, HB.out⟩
          · have t0 : decide ((8 ≤ B : Prop)) = true := decide_eq_true h0
            have t1 : decide ((B ≤ 64 : Prop)) = true := decide_eq_true h1
            have t2 : decide ((4 ≤ P : Prop)) = true := decide_eq_true h2
            have t3 : decide ((P ≤ 32 : Prop)) = true := decide_eq_true h3
            have t4 : decide ((128 ≤ S : Prop)) = false := decide_eq_false h4
            have hd : decide (mayG B P S Sp) = false := decide_eq_false (by unfold mayG; omega)
            rw [hd]
            clear hd
            go_enter Try.func59, Try.ntmps59
            go_wp2_with fail
            go_ret
            exact ⟨rfl, HB.out⟩
        · have t0 : decide ((8 ≤ B : Prop)) = true := decide_eq_true h0
          have t1 : decide ((B ≤ 64 : Prop)) = true := decide_eq_true h1
          have t2 : decide ((4 ≤ P : Prop)) = true := decide_eq_true h2
          have t3 : decide ((P ≤ 32 : Prop)) = false := decide_eq_false h3
          have hd : decide (mayG B P S Sp) = false := decide_eq_false (by unfold mayG; omega)
          rw [hd]
          clear hd
          go_enter Try.func59, Try.ntmps59
          go_wp2_with fail
          go_ret
          exact ⟨rfl, HB.out⟩
      · have t0 : decide ((8 ≤ B : Prop)) = true := decide_eq_true h0
        have t1 : decide ((B ≤ 64 : Prop)) = true := decide_eq_true h1
        have t2 : decide ((4 ≤ P : Prop)) = false := decide_eq_false h2
        have hd : decide (mayG B P S Sp) = false := decide_eq_false (by unfold mayG; omega)
        rw [hd]
        clear hd
        go_enter Try.func59, Try.ntmps59
        go_wp2_with fail
        go_ret
        exact ⟨rfl, HB.out⟩
    · have t0 : decide ((8 ≤ B : Prop)) = true := decide_eq_true h0
      have t1 : decide ((B ≤ 64 : Prop)) = false := decide_eq_false h1
      have hd : decide (mayG B P S Sp) = false := decide_eq_false (by unfold mayG; omega)
      rw [hd]
      clear hd
      go_enter Try.func59, Try.ntmps59
      go_wp2_with fail
      go_ret
      exact ⟨rfl, HB.out⟩
  · have t0 : decide ((8 ≤ B : Prop)) = false := decide_eq_false h0
    have hd : decide (mayG B P S Sp) = false := decide_eq_false (by unfold mayG; omega)
    rw [hd]
    clear hd
    go_enter Try.func59, Try.ntmps59
    go_wp2_with fail
    go_ret
    exact ⟨rfl, HB.out⟩
set_option maxRecDepth 100000 in
theorem all_any (w : World) (B P S : Nat) (Sp : Int) (hB : B ≤ 64) (hP : P ≤ 32) (hS : S ≤ 256) :
    Calls Try.prog 60 #[.agg #[.int .i64 (B : Int), .int .i64 (P : Int), .int .i64 (S : Int), .int .i64 Sp]] w fun e w' => e = .returned (.int .i64 ((B * (P * S) : Nat) : Int)) ∧ Below w.heap.size w w' := by
  have HB := Lib.hid ((Below.refl w.heap.size w).alloc (Nat.le_refl _) (.cells #[.int .i64 (B : Int), .int .i64 (P : Int), .int .i64 (S : Int), .int .i64 Sp] 28))
  have h1 : B * P ≤ 64 * 32 := Nat.mul_le_mul hB hP
  have h2 : B * P * S ≤ 64 * 32 * 256 := Nat.mul_le_mul h1 hS
  have e1 : ((B : Int) * (P : Int)) = ((B * P : Nat) : Int) := by simp
  have e2 : (((B * P : Nat) : Int) * (S : Int)) = ((B * (P * S) : Nat) : Int) := by rw [← Nat.mul_assoc]; simp
  have hw1 : IntKind.i64.wrap ((B : Int) * (P : Int)) = ((B * P : Nat) : Int) := by rw [e1]; exact IntWalk.i64_in _ (by omega)
  have hw2 : IntKind.i64.wrap (((B * P : Nat) : Int) * (S : Int)) = ((B * (P * S) : Nat) : Int) := by
    rw [e2]
    exact IntWalk.i64_in _ (by rw [← Nat.mul_assoc]; omega)
  generalize B * P = Q at *
  generalize B * (P * S) = M at *
  clear e1 e2
  go_enter Try.func60, Try.ntmps60
  go_wp2_with fail
  go_ret
  exact ⟨rfl, HB.out⟩

def RNewEnd (w : World) (B P S Sp : Int) (e : Ending) (w' : World) : Prop :=
  Below w.heap.size w w' ∧ (¬ mayG B P S Sp → e = .returned (.tuple #[.pointer none, .int .i64 2])) ∧ (mayG B P S Sp → ∃ g, e = .returned (.tuple #[.pointer (some ⟨g, 0, none⟩), .int .i64 0]) ∧ RC w' (fsh w w') g (newS B.toNat P.toNat S.toNat Sp.toNat))
theorem rep_set {M j : Nat} (h : j < M) : (List.replicate j (255 : UInt8) ++ List.replicate (M - j) 0).set j 255 = List.replicate (j + 1) 255 ++ List.replicate (M - (j + 1)) 0 := by
  apply List.ext_getElem?
  intro i
  rw [List.getElem?_set]
  simp only [List.length_append, List.length_replicate, List.getElem?_append, List.getElem?_replicate]
  by_cases h1 : j = i
  · subst h1
    simp
    omega
  · rw [if_neg h1]
    by_cases h2 : i < j
    · have e1 : i < j + 1 := by omega
      simp [h2, e1]
    · have e1 : ¬ i < j + 1 := by omega
      by_cases h3 : i < M
      · have e2 : i - j < M - j := by omega
        have e3 : i - (j + 1) < M - (j + 1) := by omega
        simp [h2, e1, e2, e3]
      · have e2 : ¬ i - j < M - j := by omega
        have e3 : ¬ i - (j + 1) < M - (j + 1) := by omega
        simp [h2, e1, e2, e3]
theorem grown_then {w w1 w2 : World} {row : Option Nat} (h : w.grownBy w1 row) (k : w1.grownBy w2 row) : w.grownBy w2 row :=
  ⟨k.os.trans h.os, k.tape.trans h.tape, k.output.trans h.output, Nat.le_trans h.size k.size, fun i hi hne => (k.block i (Nat.lt_of_lt_of_le hi h.size) hne).trans (h.block i hi hne)⟩
/-- What New has made so far. -/
structure NewSt (w wg : World) (M B : Nat) (W : World) (ob oi : Option Nat) : Prop where
  b0 : wg.heap.size = w.heap.size + 1
  b1 : Below w.heap.size w W
  b2 : Below (w.heap.size + 1) wg W
  bytes : ∀ k, ob = some k → RowB 5 W k (List.replicate M 0) ∧ w.heap.size < k
  bools : ∀ k, oi = some k → Blk W k 4 ((List.replicate B false).map Value.bool ++ []).toArray ∧ w.heap.size < k
  ne : ∀ k k', ob = some k → oi = some k' → k ≠ k'
section
variable {w wg W W' : World} {M B : Nat} {ob oi : Option Nat}
theorem NewSt.lt (h : NewSt w wg M B W ob oi) : w.heap.size + 1 ≤ W.heap.size := by
  have := h.b2.size
  rw [h.b0] at this
  exact this
theorem NewSt.step (h : NewSt w wg M B W ob oi) (hb : Below W.heap.size W W') : NewSt w wg M B W' ob oi :=
  ⟨h.b0, below_then h.b1 h.b1.size hb, below_then h.b2 h.lt hb, fun k hk => ⟨(h.bytes k hk).1.belowAll hb, (h.bytes k hk).2⟩, fun k hk => ⟨(h.bools k hk).1.below hb (h.bools k hk).1.lt, (h.bools k hk).2⟩, h.ne⟩
theorem NewSt.mkB (h : NewSt w wg M B W none oi) : NewSt w wg M B (W.alloc (.cells (madeCells #[.int .u8 0] M) 5)) (some W.heap.size) oi := by
  have h1 := h.step ((Below.refl W.heap.size W).alloc (Nat.le_refl _) (.cells (madeCells #[.int .u8 0] M) 5))
  refine ⟨h1.b0, h1.b1, h1.b2, fun k hk => ?_, h1.bools, fun k k' hk hk' => ?_⟩
  · injection hk with hk
    subst hk
    exact ⟨RowB.made W 5 M, h.lt⟩
  · injection hk with hk
    subst hk
    have := (h.bools k' hk').1.lt
    omega
theorem NewSt.mkI (h : NewSt w wg M B W ob none) : NewSt w wg M B (W.alloc (.cells (madeCells #[.bool false] B) 4)) ob (some W.heap.size) := by
  have h1 := h.step ((Below.refl W.heap.size W).alloc (Nat.le_refl _) (.cells (madeCells #[.bool false] B) 4))
  refine ⟨h1.b0, h1.b1, h1.b2, h1.bytes, fun k hk => ?_, fun k k' hk hk' => ?_⟩
  · injection hk with hk
    subst hk
    exact ⟨made_bools W B, h.lt⟩
  · injection hk' with hk'
    subst hk'
    have := (h.bytes k hk).1.lt
    omega
theorem NewSt.box {kB kI : Nat} (h : NewSt w wg M B W (some kB) (some kI)) (kc : Nat) (hkc : kc = W.heap.size) (cs : Array Value) :
    NewSt w wg M B (W.alloc (.cells cs 56)) (some kB) (some kI) ∧ Blk (W.alloc (.cells cs 56)) kc 56 cs ∧ kc ≠ kB ∧ kc ≠ kI ∧ w.heap.size < kc ∧ (W.alloc (.cells cs 56)).grownBy (W.alloc (.cells cs 56)) (some kB) := by
  subst hkc
  have e1 := (h.bytes _ rfl).1.lt
  have e2 := (h.bools _ rfl).1.lt
  exact ⟨h.step ((Below.refl W.heap.size W).alloc (Nat.le_refl _) _), Blk.new W _ cs, by omega, by omega, h.lt, ⟨rfl, rfl, rfl, Nat.le_refl _, fun _ _ _ => rfl⟩⟩
theorem NewSt.chip {kB kI kc P S Sp : Nat} (h : NewSt w wg M B W (some kB) (some kI)) (hmay : mayG (B : Int) (P : Int) (S : Int) (Sp : Int)) (hM : M = B * (P * S))
    (hbk : Blk W' kc 56 #[.int .i64 (B : Int), .int .i64 (P : Int), .int .i64 (S : Int), .int .i64 (Sp : Int), .slice (some ⟨kB, 0, none⟩) M M, .slice (some ⟨kI, 0, none⟩) B B, .slice none 0 0, .int .i64 0, .bool false, .int .i64 0])
    (hrow : RowB 5 W' kB (List.replicate M 255)) (hg : W.grownBy W' (some kB)) (n1 : kc ≠ kB) (n2 : kc ≠ kI) (hkc : w.heap.size < kc) : Below w.heap.size w W' ∧ RC W' (fsh w W') kc (newS B P S Sp) := by
  have e1 := (h.bytes _ rfl)
  have e2 := (h.bools _ rfl)
  have hok := newS_ok hmay
  have hkd := e2.1.grown hg (fun e => by injection e with e; exact h.ne _ _ rfl rfl e.symm)
  have h3 := hok.n.2.2
  have hM' : (newS B P S Sp).B * (newS B P S Sp).N = M := hM.symm
  have hb : Below w.heap.size w W' := h.b1.grown hg h.b1.size (fun k e => by injection e with e; omega)
  have hB := hok.b2
  refine ⟨hb, ⟨kB, kI, B, 0, [], [], none⟩, hok, ?_, ?_, hkd, HitsP.nil _ _ _, ?_, ⟨rfl, by show B ≤ maxLen; have : B ≤ 64 := hB; unfold maxLen; omega⟩, ⟨Nat.le_refl _, Nat.zero_le _⟩, ⟨n1, n2, h.ne _ _ rfl rfl⟩, ⟨⟨Nat.le_of_lt hkc, hbk.lt⟩, ⟨Nat.le_of_lt e1.2, hrow.lt⟩, ⟨Nat.le_of_lt e2.2, hkd.lt⟩⟩, fun k hk => hk.2⟩
  · unfold refCells
    rw [hM']
    exact hbk
  · have e : (newS B P S Sp).bytes ++ [] = List.replicate M 255 := by rw [List.append_nil, hM]; rfl
    show RowB 5 W' kB ((newS B P S Sp).bytes ++ [])
    rw [e]
    exact hrow
  · rw [hM'] at h3 ⊢
    show M + 0 ≤ maxLen
    unfold maxLen
    omega
end
def RNewYes (w : World) (B P S Sp : Nat) (e : Ending) (w' : World) : Prop :=
  Below w.heap.size w w' ∧ ∃ g, e = .returned (.tuple #[.pointer (some ⟨g, 0, none⟩), .int .i64 0]) ∧ RC w' (fsh w w') g (newS B P S Sp)
set_option maxRecDepth 100000 in
set_option maxHeartbeats 2000000 in
theorem rnew_yes (w : World) (B P S Sp : Nat) (hm : mayG (B : Int) (P : Int) (S : Int) (Sp : Int)) :
    Calls Try.prog 48 #[.agg #[.int .i64 (B : Int), .int .i64 (P : Int), .int .i64 (S : Int), .int .i64 (Sp : Int)]] w (RNewYes w B P S Sp) := by
  have hb0 := (Below.refl w.heap.size w).alloc (Nat.le_refl _) (.cells #[.int .i64 (B : Int), .int .i64 (P : Int), .int .i64 (S : Int), .int .i64 (Sp : Int)] 28)
  have hB0 := Blk.new w 28 #[.int .i64 (B : Int), .int .i64 (P : Int), .int .i64 (S : Int), .int .i64 (Sp : Int)]
  have hmay := may_any (w.alloc (.cells #[.int .i64 (B : Int), .int .i64 (P : Int), .int .i64 (S : Int), .int .i64 (Sp : Int)] 28)) B P S Sp
  have hs0 : (w.alloc (.cells #[.int .i64 (B : Int), .int .i64 (P : Int), .int .i64 (S : Int), .int .i64 (Sp : Int)] 28)).heap.size = w.heap.size + 1 := alloc_sz _ _
  rw [decide_eq_true hm] at hmay
  have HM := Lib.hid hmay
  have HB0 := Lib.hid (And.intro hb0 (And.intro hB0 hs0))
  obtain ⟨M, hM⟩ : ∃ M, M = B * (P * S) := ⟨_, rfl⟩
  have hMm : M ≤ 524288 := by
    have h := (newS_ok hm).n.2.2
    rw [hM]
    exact h
  have hall : ∀ W : World, Calls Try.prog 60 #[.agg #[.int .i64 (B : Int), .int .i64 (P : Int), .int .i64 (S : Int), .int .i64 (Sp : Int)]] W fun e w' => e = .returned (.int .i64 (M : Int)) ∧ Below W.heap.size W w' := fun W => by
    have h := newS_ok hm
    rw [hM]
    exact all_any W B P S Sp h.b2 h.p2 h.s2
  have hB64 : B ≤ 64 := (newS_ok hm).b2
  have HALL := Lib.hid hall
  have HMB := Lib.hid (make_bytes (P := Try.prog) 22 5 Try.underlying22 u8info M (by omega))
  have HMI := Lib.hid (make_bools B (by omega))
  have HMAY := Lib.hid (And.intro hM (And.intro hMm hm))
  clear hall hM hMm hB64
  clear hb0 hB0 hs0 hm hmay
  unfold RNewYes
  go_enter Try.func48, Try.ntmps48
  go_wp2_with fail
  refine HM.out.mono ?_
  rintro e w2 ⟨rfl, hb2⟩
  have HC := Lib.hid (show ∀ w' : World, Below (w.heap.size + 1) (w.alloc (.cells #[.int .i64 (B : Int), .int .i64 (P : Int), .int .i64 (S : Int), .int .i64 (Sp : Int)] 28)) w' → (fun w' : World => w'.cell? ⟨w.heap.size, 0, none⟩ = some (.int .i64 (B : Int)) ∧ w'.cell? ⟨w.heap.size, 1, none⟩ = some (.int .i64 (P : Int)) ∧ w'.cell? ⟨w.heap.size, 2, none⟩ = some (.int .i64 (S : Int)) ∧ w'.cell? ⟨w.heap.size, 3, none⟩ = some (.int .i64 (Sp : Int))) w' from fun w' hb => by
    have h := HB0.out.2.1.below hb (Nat.lt_succ_self _)
    exact ⟨h.cell 0, h.cell 1, h.cell 2, h.cell 3⟩)
  rw [HB0.out.2.2] at hb2
  have H2 := Lib.hid hb2
  clear hb2
  go_wp2_with fail
  refine wp_region_G (fun w' : World => w'.cell? ⟨w.heap.size, 0, none⟩ = some (.int .i64 (B : Int)) ∧ w'.cell? ⟨w.heap.size, 1, none⟩ = some (.int .i64 (P : Int)) ∧ w'.cell? ⟨w.heap.size, 2, none⟩ = some (.int .i64 (S : Int)) ∧ w'.cell? ⟨w.heap.size, 3, none⟩ = some (.int .i64 (Sp : Int))) 9 10 #[false, false, false, false, false, false, false, false, false, false] (by kernel_rfl) rfl (by kernel_rfl) ?_
  have hS0 : (fun w' : World => w'.cell? ⟨w.heap.size, 0, none⟩ = some (.int .i64 (B : Int)) ∧ w'.cell? ⟨w.heap.size, 1, none⟩ = some (.int .i64 (P : Int)) ∧ w'.cell? ⟨w.heap.size, 2, none⟩ = some (.int .i64 (S : Int)) ∧ w'.cell? ⟨w.heap.size, 3, none⟩ = some (.int .i64 (Sp : Int))) w2.drew := HC.out w2.drew (H2.out.drew)
  dsimp only at hS0
  have HN0 := Lib.hid (show NewSt w (w.alloc (.cells #[.int .i64 (B : Int), .int .i64 (P : Int), .int .i64 (S : Int), .int .i64 (Sp : Int)] 28)) M B w2.drew none none from ⟨HB0.out.2.2, (below_then HB0.out.1 HB0.out.1.size (by rw [HB0.out.2.2]; exact H2.out)).drew, H2.out.drew, fun _ h => (by cases h), fun _ h => (by cases h), fun _ _ h => (by cases h)⟩)
  generalize w2.drew = wd at *
  refine wpAnyG_takeL (i := 0) (v := ?v1) (fuel := 9) (listed' := #[true, false, false, false, false, false, false, false, false, false]) rfl (by kernel_rfl) (fun _ _ _ h => h) (.inl ⟨by rfl, ?hy1⟩) (by assumption) (by kernel_rfl) ?rest1
  case hy1 => (intro w' hSw; (try dsimp only at hSw); go_simp; try with_reducible rfl)
  try simp only [Act.put, List.setIfInBounds_toArray, List.set_cons_zero, List.set_cons_succ]
  refine wpAnyG_takeL (i := 1) (v := ?v2) (fuel := 8) (listed' := #[true, true, false, false, false, false, false, false, false, false]) rfl (by kernel_rfl) (fun _ _ _ h => h) (.inl ⟨by rfl, ?hy2⟩) (by assumption) (by kernel_rfl) ?rest2
  case hy2 => (intro w' hSw; (try dsimp only at hSw); go_simp; try with_reducible rfl)
  try simp only [Act.put, List.setIfInBounds_toArray, List.set_cons_zero, List.set_cons_succ]
  refine wpAnyG_takeL (i := 4) (v := ?v3) (fuel := 7) (listed' := #[true, true, false, false, true, false, false, false, false, false]) rfl (by kernel_rfl) (fun _ _ _ h => h) (.inl ⟨by rfl, ?hy3⟩) (by assumption) (by kernel_rfl) ?rest3
  case hy3 => (intro w' hSw; (try dsimp only at hSw); go_simp; try with_reducible rfl)
  try simp only [Act.put, List.setIfInBounds_toArray, List.set_cons_zero, List.set_cons_succ]
  refine wpAnyG_takeL (i := 5) (v := ?v4) (fuel := 6) (listed' := #[true, true, false, false, true, true, false, false, false, false]) rfl (by kernel_rfl) (fun _ _ _ h => h) (.inl ⟨by rfl, ?hy4⟩) (by assumption) (by kernel_rfl) ?rest4
  case hy4 => (intro w' hSw; (try dsimp only at hSw); go_simp; try with_reducible rfl)
  try simp only [Act.put, List.setIfInBounds_toArray, List.set_cons_zero, List.set_cons_succ]
  refine wpAnyG_twoL (i := 2) (j := 6) (fuel := 5) (li := #[true, true, true, false, true, true, false, false, false, false]) (lj := #[true, true, false, false, true, true, true, false, false, false]) rfl rfl (by kernel_rfl) (by rfl) (by rfl) (by kernel_rfl) (by kernel_rfl) (fun K hK0 => ?_) (fun K hK0 => ?_)
  · have hK := Lib.hid hK0
    clear hK0
    go_simp
    refine (HALL.out _).mono ?_
    rintro e wc1 ⟨rfl, hbc1⟩
    have HN1 := Lib.hid (HN0.out.step hbc1)
    clear hbc1
    refine hK.out _ _ (.inl (HC.out _ HN1.out.b2)) ?_
    clear hK K
    refine wpAnyG_twoL (i := 3) (j := 6) (fuel := 4) (li := #[true, true, true, true, true, true, false, false, false, false]) (lj := #[true, true, true, false, true, true, true, false, false, false]) rfl rfl (by kernel_rfl) (by rfl) (by rfl) (by kernel_rfl) (by kernel_rfl) (fun K hK0 => ?_) (fun K hK0 => ?_)
    · have hK := Lib.hid hK0
      clear hK0
      obtain ⟨kB, hkB⟩ : ∃ k, k = wc1.heap.size := ⟨_, rfl⟩
      have hm2 := HMB.out wc1
      have hn2 := HN1.out.mkB
      rw [← hkB] at hm2 hn2
      have HN2 := Lib.hid hn2
      clear hn2 hkB
      go_simp
      refine hK.out _ _ (.inl (HC.out _ HN2.out.b2)) ?_
      clear hK K hm2
      generalize wc1.alloc (.cells (madeCells #[.int .u8 0] M) 5) = wm2 at *
      refine wpAnyG_oneL (i := 6) (fuel := 3) (listed' := #[true, true, true, true, true, true, true, false, false, false]) rfl (by kernel_rfl) (by kernel_rfl) (by rfl) (fun K hK0 => ?_)
      have hK := Lib.hid hK0
      clear hK0
      obtain ⟨kI, hkI⟩ : ∃ k, k = wm2.heap.size := ⟨_, rfl⟩
      have hm3 := HMI.out wm2
      have hn3 := HN2.out.mkI
      rw [← hkI] at hm3 hn3
      have HN3 := Lib.hid hn3
      clear hn3 hkI
      go_simp
      refine hK.out _ _ (.inl (HC.out _ HN3.out.b2)) ?_
      clear hK K hm3
      generalize wm2.alloc (.cells (madeCells #[.bool false] B) 4) = wm3 at *
      refine wpAnyG_oneL (i := 7) (fuel := 2) (listed' := #[true, true, true, true, true, true, true, true, false, false]) rfl (by kernel_rfl) (by kernel_rfl) (by rfl) (fun K hK0 => ?_)
      have hK := Lib.hid hK0
      clear hK0
      go_simp
      refine hK.out _ _ (.inl (HC.out _ HN3.out.b2)) ?_
      clear hK K
      refine wpAnyG_oneL (i := 8) (fuel := 1) (listed' := #[true, true, true, true, true, true, true, true, true, false]) rfl (by kernel_rfl) (by kernel_rfl) (by rfl) (fun K hK0 => ?_)
      have hK := Lib.hid hK0
      clear hK0
      obtain ⟨kc, hkc⟩ : ∃ k, k = wm3.heap.size := ⟨_, rfl⟩
      have HZ := Lib.hid (HN3.out.box kc hkc #[.int .i64 (B : Int), .int .i64 (P : Int), .int .i64 (S : Int), .int .i64 (Sp : Int), .slice (some ⟨kB, 0, none⟩) M M, .slice (some ⟨kI, 0, none⟩) B B, .slice none 0 0, .int .i64 0, .bool false, .int .i64 0])
      go_simp
      refine hK.out _ _ (.inl (HC.out _ HZ.out.1.b2)) ?_
      clear hK K
      rw [← hkc]
      generalize wm3.alloc (.cells #[.int .i64 (B : Int), .int .i64 (P : Int), .int .i64 (S : Int), .int .i64 (Sp : Int), .slice (some ⟨kB, 0, none⟩) M M, .slice (some ⟨kI, 0, none⟩) B B, .slice none 0 0, .int .i64 0, .bool false, .int .i64 0] 56) = wz at *
      clear hkc
      refine wpAnyG_oneL (i := 9) (fuel := 0) (listed' := #[true, true, true, true, true, true, true, true, true, true]) rfl (by kernel_rfl) (by kernel_rfl) (by rfl) (fun K hK0 => ?_)
      have hK := Lib.hid hK0
      clear hK0
      go_simp
      refine hK.out _ _ (.inr (by decide)) ?_
      clear hK K
      refine wpAnyG_done (by kernel_rfl) ?_ _
      clear hS0
      go_wp2_with fail
      go_loopg [5] M (fun k i wr => ∃ j : Nat, j + k = M ∧ i = .int .i64 j ∧ RowB 5 wr kB (List.replicate j 255 ++ List.replicate (M - j) 0) ∧ wz.grownBy wr (some kB))
      case atStart => exact ⟨0, by omega, rfl, by simpa using (HZ.out.1.bytes kB rfl).1, HZ.out.2.2.2.2.2⟩
      case round =>
        obtain ⟨j, hj, rfl, hrw, hg⟩ := hrel
        have hbk := HZ.out.2.1.grown hg (fun e => by injection e with e; exact HZ.out.2.2.1 e)
        have c4 := hbk.cell 4
        simp at c4
        have HJ := Lib.hid (And.intro hj (And.intro hrw (And.intro hg hbk)))
        clear hj hrw hg hbk
        by_cases hlt : j < M
        · have hltI : (j : Int) < (M : Int) := by omega
          have hM3 := HMAY.out.2.1
          have hfz := HJ.out.2.1.frozen j
          have hcell : wr.cell? ⟨kB, j, none⟩ = some (.int .u8 0) := HJ.out.2.1.cell (b := 0) (by rw [List.getElem?_append_right (by simp), List.getElem?_replicate, if_pos (by simp; omega)])
          have hjw : IntKind.i64.wrap ((j : Int) + 1) = (j : Int) + 1 := IntWalk.i64_in _ (by omega)
          go_wp2_with fail
          go_roundg (M - (j + 1))
          case measure => have := HJ.out.1; omega
          case rel => exact ⟨j + 1, by have := HJ.out.1; omega, by go_num, by rw [← rep_set (by omega)]; exact HJ.out.2.1.set' j rfl, grown_then HJ.out.2.2.1 (grown_setCell _ _ _ _)⟩
        · have hjM : j = M := by have := HJ.out.1; omega
          have hge : ¬ (j : Int) < (M : Int) := by omega
          have hfin := HZ.out.1.chip (P := P) (S := S) (Sp := Sp) (kc := kc) HMAY.out.2.2 HMAY.out.1 HJ.out.2.2.2 (by have h := HJ.out.2.1; rw [hjM] at h; simpa using h) HJ.out.2.2.1 HZ.out.2.2.1 HZ.out.2.2.2.1 HZ.out.2.2.2.2.1
          have HF := Lib.hid hfin
          clear hfin
          go_wp2_with fail
          go_ret2
          exact ⟨HF.out.1, kc, rfl, HF.out.2⟩
    · have hK := Lib.hid hK0
      clear hK0
      obtain ⟨kI, hkI⟩ : ∃ k, k = wc1.heap.size := ⟨_, rfl⟩
      have hm4 := HMI.out wc1
      have hn4 := HN1.out.mkI
      rw [← hkI] at hm4 hn4
      have HN4 := Lib.hid hn4
      clear hn4 hkI
      go_simp
      refine hK.out _ _ (.inl (HC.out _ HN4.out.b2)) ?_
      clear hK K hm4
      generalize wc1.alloc (.cells (madeCells #[.bool false] B) 4) = wm4 at *
      refine wpAnyG_oneL (i := 3) (fuel := 3) (listed' := #[true, true, true, true, true, true, true, false, false, false]) rfl (by kernel_rfl) (by kernel_rfl) (by rfl) (fun K hK0 => ?_)
      have hK := Lib.hid hK0
      clear hK0
      obtain ⟨kB, hkB⟩ : ∃ k, k = wm4.heap.size := ⟨_, rfl⟩
      have hm5 := HMB.out wm4
      have hn5 := HN4.out.mkB
      rw [← hkB] at hm5 hn5
      have HN5 := Lib.hid hn5
      clear hn5 hkB
      go_simp
      refine hK.out _ _ (.inl (HC.out _ HN5.out.b2)) ?_
      clear hK K hm5
      generalize wm4.alloc (.cells (madeCells #[.int .u8 0] M) 5) = wm5 at *
      refine wpAnyG_oneL (i := 7) (fuel := 2) (listed' := #[true, true, true, true, true, true, true, true, false, false]) rfl (by kernel_rfl) (by kernel_rfl) (by rfl) (fun K hK0 => ?_)
      have hK := Lib.hid hK0
      clear hK0
      go_simp
      refine hK.out _ _ (.inl (HC.out _ HN5.out.b2)) ?_
      clear hK K
      refine wpAnyG_oneL (i := 8) (fuel := 1) (listed' := #[true, true, true, true, true, true, true, true, true, false]) rfl (by kernel_rfl) (by kernel_rfl) (by rfl) (fun K hK0 => ?_)
      have hK := Lib.hid hK0
      clear hK0
      obtain ⟨kc, hkc⟩ : ∃ k, k = wm5.heap.size := ⟨_, rfl⟩
      have HZ := Lib.hid (HN5.out.box kc hkc #[.int .i64 (B : Int), .int .i64 (P : Int), .int .i64 (S : Int), .int .i64 (Sp : Int), .slice (some ⟨kB, 0, none⟩) M M, .slice (some ⟨kI, 0, none⟩) B B, .slice none 0 0, .int .i64 0, .bool false, .int .i64 0])
      go_simp
      refine hK.out _ _ (.inl (HC.out _ HZ.out.1.b2)) ?_
      clear hK K
      rw [← hkc]
      generalize wm5.alloc (.cells #[.int .i64 (B : Int), .int .i64 (P : Int), .int .i64 (S : Int), .int .i64 (Sp : Int), .slice (some ⟨kB, 0, none⟩) M M, .slice (some ⟨kI, 0, none⟩) B B, .slice none 0 0, .int .i64 0, .bool false, .int .i64 0] 56) = wz at *
      clear hkc
      refine wpAnyG_oneL (i := 9) (fuel := 0) (listed' := #[true, true, true, true, true, true, true, true, true, true]) rfl (by kernel_rfl) (by kernel_rfl) (by rfl) (fun K hK0 => ?_)
      have hK := Lib.hid hK0
      clear hK0
      go_simp
      refine hK.out _ _ (.inr (by decide)) ?_
      clear hK K
      refine wpAnyG_done (by kernel_rfl) ?_ _
      clear hS0
      go_wp2_with fail
      go_loopg [5] M (fun k i wr => ∃ j : Nat, j + k = M ∧ i = .int .i64 j ∧ RowB 5 wr kB (List.replicate j 255 ++ List.replicate (M - j) 0) ∧ wz.grownBy wr (some kB))
      case atStart => exact ⟨0, by omega, rfl, by simpa using (HZ.out.1.bytes kB rfl).1, HZ.out.2.2.2.2.2⟩
      case round =>
        obtain ⟨j, hj, rfl, hrw, hg⟩ := hrel
        have hbk := HZ.out.2.1.grown hg (fun e => by injection e with e; exact HZ.out.2.2.1 e)
        have c4 := hbk.cell 4
        simp at c4
        have HJ := Lib.hid (And.intro hj (And.intro hrw (And.intro hg hbk)))
        clear hj hrw hg hbk
        by_cases hlt : j < M
        · have hltI : (j : Int) < (M : Int) := by omega
          have hM3 := HMAY.out.2.1
          have hfz := HJ.out.2.1.frozen j
          have hcell : wr.cell? ⟨kB, j, none⟩ = some (.int .u8 0) := HJ.out.2.1.cell (b := 0) (by rw [List.getElem?_append_right (by simp), List.getElem?_replicate, if_pos (by simp; omega)])
          have hjw : IntKind.i64.wrap ((j : Int) + 1) = (j : Int) + 1 := IntWalk.i64_in _ (by omega)
          go_wp2_with fail
          go_roundg (M - (j + 1))
          case measure => have := HJ.out.1; omega
          case rel => exact ⟨j + 1, by have := HJ.out.1; omega, by go_num, by rw [← rep_set (by omega)]; exact HJ.out.2.1.set' j rfl, grown_then HJ.out.2.2.1 (grown_setCell _ _ _ _)⟩
        · have hjM : j = M := by have := HJ.out.1; omega
          have hge : ¬ (j : Int) < (M : Int) := by omega
          have hfin := HZ.out.1.chip (P := P) (S := S) (Sp := Sp) (kc := kc) HMAY.out.2.2 HMAY.out.1 HJ.out.2.2.2 (by have h := HJ.out.2.1; rw [hjM] at h; simpa using h) HJ.out.2.2.1 HZ.out.2.2.1 HZ.out.2.2.2.1 HZ.out.2.2.2.2.1
          have HF := Lib.hid hfin
          clear hfin
          go_wp2_with fail
          go_ret2
          exact ⟨HF.out.1, kc, rfl, HF.out.2⟩
  · have hK := Lib.hid hK0
    clear hK0
    obtain ⟨kI, hkI⟩ : ∃ k, k = wd.heap.size := ⟨_, rfl⟩
    have hm6 := HMI.out wd
    have hn6 := HN0.out.mkI
    rw [← hkI] at hm6 hn6
    have HN6 := Lib.hid hn6
    clear hn6 hkI
    go_simp
    refine hK.out _ _ (.inl (HC.out _ HN6.out.b2)) ?_
    clear hK K hm6
    generalize wd.alloc (.cells (madeCells #[.bool false] B) 4) = wm6 at *
    refine wpAnyG_oneL (i := 2) (fuel := 4) (listed' := #[true, true, true, false, true, true, true, false, false, false]) rfl (by kernel_rfl) (by kernel_rfl) (by rfl) (fun K hK0 => ?_)
    have hK := Lib.hid hK0
    clear hK0
    go_simp
    refine (HALL.out _).mono ?_
    rintro e wc7 ⟨rfl, hbc7⟩
    have HN7 := Lib.hid (HN6.out.step hbc7)
    clear hbc7
    refine hK.out _ _ (.inl (HC.out _ HN7.out.b2)) ?_
    clear hK K
    refine wpAnyG_oneL (i := 3) (fuel := 3) (listed' := #[true, true, true, true, true, true, true, false, false, false]) rfl (by kernel_rfl) (by kernel_rfl) (by rfl) (fun K hK0 => ?_)
    have hK := Lib.hid hK0
    clear hK0
    obtain ⟨kB, hkB⟩ : ∃ k, k = wc7.heap.size := ⟨_, rfl⟩
    have hm8 := HMB.out wc7
    have hn8 := HN7.out.mkB
    rw [← hkB] at hm8 hn8
    have HN8 := Lib.hid hn8
    clear hn8 hkB
    go_simp
    refine hK.out _ _ (.inl (HC.out _ HN8.out.b2)) ?_
    clear hK K hm8
    generalize wc7.alloc (.cells (madeCells #[.int .u8 0] M) 5) = wm8 at *
    refine wpAnyG_oneL (i := 7) (fuel := 2) (listed' := #[true, true, true, true, true, true, true, true, false, false]) rfl (by kernel_rfl) (by kernel_rfl) (by rfl) (fun K hK0 => ?_)
    have hK := Lib.hid hK0
    clear hK0
    go_simp
    refine hK.out _ _ (.inl (HC.out _ HN8.out.b2)) ?_
    clear hK K
    refine wpAnyG_oneL (i := 8) (fuel := 1) (listed' := #[true, true, true, true, true, true, true, true, true, false]) rfl (by kernel_rfl) (by kernel_rfl) (by rfl) (fun K hK0 => ?_)
    have hK := Lib.hid hK0
    clear hK0
    obtain ⟨kc, hkc⟩ : ∃ k, k = wm8.heap.size := ⟨_, rfl⟩
    have HZ := Lib.hid (HN8.out.box kc hkc #[.int .i64 (B : Int), .int .i64 (P : Int), .int .i64 (S : Int), .int .i64 (Sp : Int), .slice (some ⟨kB, 0, none⟩) M M, .slice (some ⟨kI, 0, none⟩) B B, .slice none 0 0, .int .i64 0, .bool false, .int .i64 0])
    go_simp
    refine hK.out _ _ (.inl (HC.out _ HZ.out.1.b2)) ?_
    clear hK K
    rw [← hkc]
    generalize wm8.alloc (.cells #[.int .i64 (B : Int), .int .i64 (P : Int), .int .i64 (S : Int), .int .i64 (Sp : Int), .slice (some ⟨kB, 0, none⟩) M M, .slice (some ⟨kI, 0, none⟩) B B, .slice none 0 0, .int .i64 0, .bool false, .int .i64 0] 56) = wz at *
    clear hkc
    refine wpAnyG_oneL (i := 9) (fuel := 0) (listed' := #[true, true, true, true, true, true, true, true, true, true]) rfl (by kernel_rfl) (by kernel_rfl) (by rfl) (fun K hK0 => ?_)
    have hK := Lib.hid hK0
    clear hK0
    go_simp
    refine hK.out _ _ (.inr (by decide)) ?_
    clear hK K
    refine wpAnyG_done (by kernel_rfl) ?_ _
    clear hS0
    go_wp2_with fail
    go_loopg [5] M (fun k i wr => ∃ j : Nat, j + k = M ∧ i = .int .i64 j ∧ RowB 5 wr kB (List.replicate j 255 ++ List.replicate (M - j) 0) ∧ wz.grownBy wr (some kB))
    case atStart => exact ⟨0, by omega, rfl, by simpa using (HZ.out.1.bytes kB rfl).1, HZ.out.2.2.2.2.2⟩
    case round =>
      obtain ⟨j, hj, rfl, hrw, hg⟩ := hrel
      have hbk := HZ.out.2.1.grown hg (fun e => by injection e with e; exact HZ.out.2.2.1 e)
      have c4 := hbk.cell 4
      simp at c4
      have HJ := Lib.hid (And.intro hj (And.intro hrw (And.intro hg hbk)))
      clear hj hrw hg hbk
      by_cases hlt : j < M
      · have hltI : (j : Int) < (M : Int) := by omega
        have hM3 := HMAY.out.2.1
        have hfz := HJ.out.2.1.frozen j
        have hcell : wr.cell? ⟨kB, j, none⟩ = some (.int .u8 0) := HJ.out.2.1.cell (b := 0) (by rw [List.getElem?_append_right (by simp), List.getElem?_replicate, if_pos (by simp; omega)])
        have hjw : IntKind.i64.wrap ((j : Int) + 1) = (j : Int) + 1 := IntWalk.i64_in _ (by omega)
        go_wp2_with fail
        go_roundg (M - (j + 1))
        case measure => have := HJ.out.1; omega
        case rel => exact ⟨j + 1, by have := HJ.out.1; omega, by go_num, by rw [← rep_set (by omega)]; exact HJ.out.2.1.set' j rfl, grown_then HJ.out.2.2.1 (grown_setCell _ _ _ _)⟩
      · have hjM : j = M := by have := HJ.out.1; omega
        have hge : ¬ (j : Int) < (M : Int) := by omega
        have hfin := HZ.out.1.chip (P := P) (S := S) (Sp := Sp) (kc := kc) HMAY.out.2.2 HMAY.out.1 HJ.out.2.2.2 (by have h := HJ.out.2.1; rw [hjM] at h; simpa using h) HJ.out.2.2.1 HZ.out.2.2.1 HZ.out.2.2.2.1 HZ.out.2.2.2.2.1
        have HF := Lib.hid hfin
        clear hfin
        go_wp2_with fail
        go_ret2
        exact ⟨HF.out.1, kc, rfl, HF.out.2⟩
end Go.Proofs.Ytlcdabmclcfagaa
