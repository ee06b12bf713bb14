import Derived.Test.YtlioclicopakbaaKeyPM
set_option linter.unusedVariables false
set_option linter.unusedSimpArgs false
/- Layer 16: is a key an end: contract. -/
namespace Go.Proofs.Ytlioclicopakbaa
open Go.RowKit

def sumB (l : List UInt8) : Nat := (l.map UInt8.toNat).sum
def endS (k : Ky) : Bool := decide (mayK k) && decide (sumB (keyB k) % 4 = 3)
theorem sumB_le (l : List UInt8) : sumB l ≤ 255 * l.length := by
  unfold sumB
  induction l with
  | nil => simp
  | cons a l ih => have := a.toNat_lt; simp only [List.map_cons, List.sum_cons, List.length_cons]; omega
theorem sumB_step {l : List UInt8} {j : Nat} {b : UInt8} (h : l[j]? = some b) : sumB (l.take (j + 1)) = sumB (l.take j) + b.toNat := by
  unfold sumB
  rw [List.take_add_one, h]
  simp

theorem add_any (w : World) (b : UInt8) (g n : Nat) (hb : Blk w g 3 #[.int .i64 (n : Int)]) (hn : n ≤ 100000) :
    Calls Try.prog 35 #[.int .u8 (b.toNat : Int), .pointer (some ⟨g, 0, none⟩)] w fun e w' => e = .returned (.tuple #[]) ∧ w' = w.setCell ⟨g, 0, none⟩ (.int .i64 ((n + b.toNat : Nat) : Int)) := by
  have c0 := hb.cell 0
  have hfz := hb.frozen 0
  simp at c0
  have HB := Lib.hid hb
  clear hb
  have hb255 := b.toNat_lt
  generalize b.toNat = x at *
  go_enter Try.func35, Try.ntmps35
  go_wp2_with fail
  go_end0
  exact ⟨rfl, rfl⟩

set_option maxRecDepth 100000 in
set_option maxHeartbeats 1000000 in
theorem endK_any (w : World) (k : Ky) (hs : k.name.size ≤ maxLen) :
    Calls Try.prog 14 #[k.val] w fun e w' => e = .returned (.bool (endS k)) ∧ Below w.heap.size w w' := by
  have HC := Lib.hid (fun w => putKey_any w k hs)
  obtain ⟨r, hr⟩ : ∃ r, endS k = r := ⟨_, rfl⟩
  have HR := Lib.hid hr
  rw [hr]
  clear hr
  obtain ⟨⟨kb, ce⟩, hp⟩ : ∃ p, putKeyS k = p := ⟨_, rfl⟩
  rw [hp] at HC
  have hcase : (ce = 0 ∧ kb.length ≤ 16 ∧ r = decide (sumB kb % 4 = 3)) ∨ (ce = 2 ∧ kb = [] ∧ r = false) := by
    unfold putKeyS at hp
    have hr := HR.out
    unfold endS at hr
    split at hp
    · rename_i h
      obtain ⟨rfl, rfl⟩ := Prod.mk.inj hp
      exact .inl ⟨rfl, (keyB_length h).2, by rw [← hr, decide_eq_true h, Bool.true_and]⟩
    · rename_i h
      obtain ⟨rfl, rfl⟩ := Prod.mk.inj hp
      exact .inr ⟨rfl, rfl, by rw [← hr, decide_eq_false h, Bool.false_and]⟩
  clear hp HR
  obtain ⟨i, a, s, c⟩ := k
  unfold Ky.val at HC ⊢
  dsimp only at HC ⊢
  generalize (a.toNat : Int) = n at *
  obtain ⟨m, hm⟩ : ∃ m, kb.length = m := ⟨_, rfl⟩
  have HM := Lib.hid (And.intro hm hcase)
  rw [hm] at hcase
  have hm16 : m ≤ 16 := by
    rcases hcase with h | h
    · exact h.2.1
    · rw [← hm, h.2.1]; simp
  have hce : ce ≤ 2 := by omega
  clear hm hcase
  go_enter Try.func14, Try.ntmps14
  go_wp2_with (go_at_call 34; refine (HC.out _).mono ?_; rintro e w1 ⟨v1, rfl, ho1, hb1⟩; obtain ⟨A1, c1, rfl, hrv1, _, _, _⟩ := ho1.slice; dsimp only at hrv1 ⊢; rw [HM.out.1]; have H1 := Lib.hid (And.intro hrv1 (below_new hb1)); clear hb1 ho1 hrv1)
  go_loopg [17] m (fun k i wr => ∃ j : Nat, j + k = m ∧ i = .int .i64 j ∧ Blk wr w1.heap.size 3 #[.int .i64 (sumB (kb.take j) : Int)] ∧ Below w1.heap.size w1 wr)
  case atStart => exact ⟨0, by omega, rfl, Blk.new _ _ _, (Below.refl _ _).alloc (Nat.le_refl _) _⟩
  case round =>
    obtain ⟨j, hj, rfl, hk, hb⟩ := hrel
    have HX := Lib.hid (And.intro hj (And.intro hk hb))
    have e0 := hk.cell 0
    simp at e0
    have hsum := sumB_le (kb.take j)
    rw [List.length_take] at hsum
    have hs2 : sumB (kb.take j) ≤ 4080 := by have := HM.out.1; omega
    clear hj hk hb hsum
    by_cases hlt : j < m
    · obtain ⟨b, hbb⟩ : ∃ b, kb[j]? = some b := ⟨_, List.getElem?_eq_getElem (by have := HM.out.1; omega)⟩
      obtain ⟨ad, hA, hcell⟩ := (H1.out.1.below HX.out.2.2) (by rw [bv_length]; have := HM.out.1; omega)
      have c0 := hcell j _ (by unfold bv; rw [List.getElem?_map, hbb]; rfl)
      subst hA
      have hstep := sumB_step hbb
      have hjm : (j : Int) < (m : Int) := by omega
      have HS := Lib.hid hstep
      clear hcell hbb hstep
      generalize hsj : sumB (kb.take j) = sj at *
      go_wp2_with fail
      refine (add_any wr b w1.heap.size sj HX.out.2.1 (by omega)).mono ?_
      rintro e w2 ⟨rfl, rfl⟩
      have hk2 := HX.out.2.1.set_ 0 (.int .i64 ((sj + b.toNat : Nat) : Int))
      have H2 := Lib.hid (show Blk (wr.setCell ⟨w1.heap.size, 0, none⟩ (.int .i64 ((sj + b.toNat : Nat) : Int))) w1.heap.size 3 #[.int .i64 ((sumB (kb.take (j + 1)) : Nat) : Int)] ∧ Below w1.heap.size w1 (wr.setCell ⟨w1.heap.size, 0, none⟩ (.int .i64 ((sj + b.toNat : Nat) : Int))) from
        ⟨by rw [HS.out]; simpa using hk2, HX.out.2.2.setCell (p := ⟨w1.heap.size, 0, none⟩) (Nat.le_refl _) _⟩)
      clear hk2 c0 e0
      generalize wr.setCell ⟨w1.heap.size, 0, none⟩ (.int .i64 ((sj + b.toNat : Nat) : Int)) = w2 at *
      go_wp2_with fail
      go_roundg (m - (j + 1))
      case measure => have := HX.out.1; omega
      case rel => exact ⟨j + 1, by have := HX.out.1; omega, by go_num, H2.out.1, H2.out.2⟩
    · obtain rfl : j = m := by have := HX.out.1; omega
      have hge : ¬ (j : Int) < (j : Int) := by omega
      have htk : kb.take j = kb := List.take_of_length_le (by have := HM.out.1; omega)
      rw [htk] at HX e0 hs2
      have hbel := below_then H1.out.2 H1.out.2.size HX.out.2.2
      have HB := Lib.hid hbel
      clear hbel htk
      rcases HM.out.2 with ⟨hc0, _, hr⟩ | ⟨hc2, _, hr⟩
      · subst hc0
        have hrem : Int.tmod (sumB kb : Int) 4 = ((sumB kb % 4 : Nat) : Int) := by rw [Int.tmod_eq_emod_of_nonneg (by omega)]; simp
        have HRR := Lib.hid hr
        clear hr
        have hq4 : sumB kb % 4 < 4 := Nat.mod_lt _ (by decide)
        generalize hq : sumB kb % 4 = q at *
        generalize sumB kb = S at *
        clear hq
        by_cases h3 : q = 3
        · have hd : r = true := by rw [HRR.out]; exact decide_eq_true h3
          have HD := Lib.hid hd
          have h3' : ((q : Int) == 3) = true := by rw [h3]; rfl
          clear hd h3
          go_wp2_with fail
          go_ret
          rw [HD.out]
          exact ⟨rfl, HB.out⟩
        · have hd : r = false := by rw [HRR.out]; exact decide_eq_false h3
          have HD := Lib.hid hd
          have h3' : ((q : Int) == 3) = false := beq_eq_false_iff_ne.2 (by omega)
          clear hd h3
          go_wp2_with fail
          go_ret
          rw [HD.out]
          exact ⟨rfl, HB.out⟩
      · subst hc2
        have HRR := Lib.hid hr
        clear hr
        go_wp2_with fail
        go_ret
        rw [HRR.out]
        exact ⟨rfl, HB.out⟩
end Go.Proofs.Ytlioclicopakbaa
