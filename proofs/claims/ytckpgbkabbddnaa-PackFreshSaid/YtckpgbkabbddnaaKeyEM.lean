import Derived.Test.YtckpgbkabbddnaaKeyDM
set_option linter.unusedVariables false
set_option linter.unusedSimpArgs false
/- The document's order of keys: contract. -/
namespace Go.Proofs.Ytckpgbkabbddnaa
open Go.RowKit

set_option maxRecDepth 100000 in
set_option maxHeartbeats 1000000 in
theorem dBefore_any (w : World) (a b : Ky) (ha : a.name.size ≤ maxLen) (hb : b.name.size ≤ maxLen) : Calls Try.prog 50 #[a.val, b.val] w fun e w' => e = .returned (.bool (decide (keyLt a b))) ∧ Below w.heap.size w w' := by
  obtain ⟨r, hr⟩ : ∃ r, decide (keyLt a b) = r := ⟨_, rfl⟩
  have hiff := keyLt_iff a b
  have HO := Lib.hid (fun w => dOrder_any w a.name b.name ha hb)
  rw [hr]
  obtain ⟨i1, k1, s1, c1⟩ := a
  obtain ⟨i2, k2, s2, c2⟩ := b
  unfold Ky.val
  dsimp only at hiff HO ha hb ⊢
  have hw : ((k1.toNat : Int) = (k2.toNat : Int)) ↔ k1 = k2 := ⟨fun h => UInt8.toNat.inj (by omega), fun h => by rw [h]⟩
  have hl : k1.toNat < k2.toNat ↔ (k1.toNat : Int) < (k2.toNat : Int) := by omega
  rw [hl, ← hw] at hiff
  generalize hk1 : (k1.toNat : Int) = n1 at *
  generalize hk2 : (k2.toNat : Int) = n2 at *
  have HR := Lib.hid (show decide (i1 < i2 ∨ i1 = i2 ∧ (n1 < n2 ∨ n1 = n2 ∧ (Op.bytesLess s1.toList s2.toList = true ∨ s1 = s2 ∧ c1 < c2))) = r from (decide_eq_decide.2 hiff.symm).trans hr)
  clear hk1 hk2 hr hiff hw hl
  by_cases h1 : i1 = i2
  · have t1 : (i1 != i2) = false := by simp [h1]
    by_cases h2 : n1 = n2
    · have t2 : (n1 != n2) = false := by simp [h2]
      have HE := Lib.hid (And.intro h1 h2)
      clear h1 h2
      go_enter Try.func50, Try.ntmps50
      go_wp2_with fail
      refine (HO.out _).mono ?_
      rintro e w1 ⟨n, rfl, hn1, hn2, hd⟩
      have hbw : Below w.heap.size w w1 := (((Below.refl _ _).alloc (Nat.le_refl _) _).alloc (by simp) _).trans (hd.below _)
      have hA : Blk w1 w.heap.size 39 #[.int .i64 i1, .int .u8 n1, .string s1, .int .i64 c1] := by
        have h0 := (Blk.new w 39 #[.int .i64 i1, .int .u8 n1, .string s1, .int .i64 c1]).alloc (.cells #[.int .i64 i2, .int .u8 n2, .string s2, .int .i64 c2] 39)
        exact h0.below (hd.below _) h0.lt
      have hB : Blk w1 (w.heap.size + 1) 39 #[.int .i64 i2, .int .u8 n2, .string s2, .int .i64 c2] := by
        have := Blk.new (w.alloc (.cells #[.int .i64 i1, .int .u8 n1, .string s1, .int .i64 c1] 39)) 39 #[.int .i64 i2, .int .u8 n2, .string s2, .int .i64 c2]
        rw [alloc_sz] at this
        exact this.below (hd.below _) this.lt
      have a3 := hA.cell 3
      have b3 := hB.cell 3
      simp at a3 b3
      have HN := Lib.hid (And.intro hn1 (And.intro hn2 hbw))
      clear hn1 hn2 hbw hA hB hd
      by_cases h3 : n = 0
      · have t3 : (n != 0) = false := by simp [h3]
        have hfin : decide (i1 < i2 ∨ i1 = i2 ∧ (n1 < n2 ∨ n1 = n2 ∧ (Op.bytesLess s1.toList s2.toList = true ∨ s1 = s2 ∧ c1 < c2))) = decide (c1 < c2) := decide_eq_decide.2 (by
          have q := HN.out.2.1.1 h3
          have q1 : ¬ Op.bytesLess s1.toList s2.toList = true := fun h => by have := HN.out.1.2 h; omega
          have := HE.out
          constructor
          · rintro (h | ⟨_, h | ⟨_, h | ⟨_, h⟩⟩⟩)
            · omega
            · omega
            · exact absurd h q1
            · exact h
          · exact fun h => .inr ⟨this.1, .inr ⟨this.2, .inr ⟨q, h⟩⟩⟩)
        have HF := Lib.hid (hfin.symm.trans HR.out)
        clear hfin h3
        go_wp2_with fail
        go_ret
        exact ⟨ret_bool HF.out, HN.out.2.2⟩
      · have t3 : (n != 0) = true := by simp [h3]
        have hfin : decide (i1 < i2 ∨ i1 = i2 ∧ (n1 < n2 ∨ n1 = n2 ∧ (Op.bytesLess s1.toList s2.toList = true ∨ s1 = s2 ∧ c1 < c2))) = decide (n < 0) := decide_eq_decide.2 (by
          have q : ¬ s1 = s2 := fun h => h3 (HN.out.2.1.2 h)
          have := HE.out
          rw [HN.out.1]
          constructor
          · rintro (h | ⟨_, h | ⟨_, h | ⟨h, _⟩⟩⟩)
            · omega
            · omega
            · exact h
            · exact absurd h q
          · exact fun h => .inr ⟨this.1, .inr ⟨this.2, .inl h⟩⟩)
        have HF := Lib.hid (hfin.symm.trans HR.out)
        clear hfin h3
        go_wp2_with fail
        go_ret
        exact ⟨ret_bool HF.out, HN.out.2.2⟩
    · have t2 : (n1 != n2) = true := by simp [h2]
      have hfin : decide (i1 < i2 ∨ i1 = i2 ∧ (n1 < n2 ∨ n1 = n2 ∧ (Op.bytesLess s1.toList s2.toList = true ∨ s1 = s2 ∧ c1 < c2))) = decide (n1 < n2) := decide_eq_decide.2 (by
        constructor
        · rintro (h | ⟨_, h | ⟨h, _⟩⟩)
          · omega
          · exact h
          · exact absurd h h2
        · exact fun h => .inr ⟨h1, .inl h⟩)
      have HF := Lib.hid (hfin.symm.trans HR.out)
      clear hfin h2 h1
      go_enter Try.func50, Try.ntmps50
      go_wp2_with fail
      go_ret
      exact ⟨ret_bool HF.out, ((Below.refl _ _).alloc (Nat.le_refl _) _).alloc (by simp) _⟩
  · have t1 : (i1 != i2) = true := by simp [h1]
    have hfin : decide (i1 < i2 ∨ i1 = i2 ∧ (n1 < n2 ∨ n1 = n2 ∧ (Op.bytesLess s1.toList s2.toList = true ∨ s1 = s2 ∧ c1 < c2))) = decide (i1 < i2) := decide_eq_decide.2 (by
      constructor
      · rintro (h | ⟨h, _⟩)
        · exact h
        · exact absurd h h1
      · exact fun h => .inl h)
    have HF := Lib.hid (hfin.symm.trans HR.out)
    clear hfin h1
    go_enter Try.func50, Try.ntmps50
    go_wp2_with fail
    go_ret
    exact ⟨ret_bool HF.out, ((Below.refl _ _).alloc (Nat.le_refl _) _).alloc (by simp) _⟩
end Go.Proofs.Ytckpgbkabbddnaa
