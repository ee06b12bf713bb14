import Derived.Test.YtlioclicopakbaaKeyPM
import Derived.Test.YtlioclicopakbaaMPlain
set_option linter.unusedVariables false
set_option linter.unusedSimpArgs false
/- Layer 15: how many bytes a fact, a child takes: contracts. -/
namespace Go.Proofs.Ytlioclicopakbaa
open Go.RowKit

def lenS (f : Fct) : Nat := if mayK f.key then (keyB f.key).length + 1 + f.val.length else 0
def innS (k : Ky) : Nat := if mayK k then (keyB k).length + 2 else 0

set_option maxRecDepth 100000 in
set_option maxHeartbeats 1000000 in
theorem leafLen_any (w : World) (f : Fct) (hs : okKy f.key) (A : Option Addr) (n d : Nat) (hn : f.val.length = n) (hn2 : n ≤ 140737488351232) :
    Calls Try.prog 28 #[.agg #[.int .i64 f.key.ino, .int .u8 (f.key.what.toNat : Int), .string f.key.name, .int .i64 f.key.chunk, .slice A n d]] w
      fun e w' => e = .returned (.int .i64 (lenS f : Int)) ∧ Below w.heap.size w w' := by
  have hC := fun w => putKey_any w f.key hs
  have HC := Lib.hid hC
  clear hC
  unfold lenS
  rw [hn]
  obtain ⟨⟨i, a, s, c⟩, l⟩ := f
  unfold Ky.val at HC
  dsimp only at HC ⊢
  have hblk := Blk.new w 41 #[.int .i64 i, .int .u8 (a.toNat : Int), .string s, .int .i64 c, .slice A n d]
  have HB := Lib.hid hblk
  clear hblk hn
  by_cases hm : mayK ⟨i, a, s, c⟩
  · have hpk : putKeyS ⟨i, a, s, c⟩ = (keyB ⟨i, a, s, c⟩, 0) := if_pos hm
    rw [hpk] at HC
    have hkl := (keyB_length hm).2
    rw [if_pos hm]
    generalize keyB ⟨i, a, s, c⟩ = kb at *
    clear hm hpk
    obtain ⟨m, hm⟩ : ∃ m, kb.length = m := ⟨_, rfl⟩
    rw [hm] at hkl ⊢
    have HM := Lib.hid hm
    clear hm
    go_enter Try.func28, Try.ntmps28
    go_wp2_with (go_at_call 34; refine (HC.out _).mono ?_; rintro e w1 ⟨v1, rfl, ho1, hb1⟩; obtain ⟨A1, c1, rfl, hrv1, _, _, _⟩ := ho1.slice; dsimp only at hrv1 ⊢; rw [HM.out]; have k0 := HB.out.below hb1 HB.out.lt; have c4 := k0.cell 4; simp at c4; have H1 := Lib.hid (below_new hb1); clear hb1 ho1 k0 hrv1)
    go_ret
    refine ⟨?_, H1.out⟩; go_num
  · have hpk : putKeyS ⟨i, a, s, c⟩ = ([], 2) := if_neg hm
    rw [hpk] at HC
    rw [if_neg hm]
    clear hm hpk
    go_enter Try.func28, Try.ntmps28
    go_wp2_with (go_at_call 34; refine (HC.out _).mono ?_; rintro e w1 ⟨v1, rfl, ho1, hb1⟩; have H1 := Lib.hid (below_new hb1); clear hb1 ho1)
    go_ret
    refine ⟨?_, H1.out⟩; go_num

set_option maxRecDepth 100000 in
set_option maxHeartbeats 1000000 in
theorem innLen_any (w : World) (k : Ky) (hs : okKy k) :
    Calls Try.prog 32 #[k.val] w fun e w' => e = .returned (.int .i64 (innS k : Int)) ∧ Below w.heap.size w w' := by
  have hC := fun w => putKey_any w k hs
  have HC := Lib.hid hC
  clear hC
  unfold innS
  obtain ⟨i, a, s, c⟩ := k
  unfold Ky.val at HC ⊢
  dsimp only at HC ⊢
  generalize ha : (a.toNat : Int) = an at *
  by_cases hm : mayK ⟨i, a, s, c⟩
  · have hpk : putKeyS ⟨i, a, s, c⟩ = (keyB ⟨i, a, s, c⟩, 0) := if_pos hm
    rw [hpk] at HC
    have hkl := (keyB_length hm).2
    rw [if_pos hm]
    generalize keyB ⟨i, a, s, c⟩ = kb at *
    clear hm hpk ha
    obtain ⟨m, hm⟩ : ∃ m, kb.length = m := ⟨_, rfl⟩
    rw [hm] at hkl ⊢
    have HM := Lib.hid hm
    clear hm
    go_enter Try.func32, Try.ntmps32
    go_wp2_with (go_at_call 34; refine (HC.out _).mono ?_; rintro e w1 ⟨v1, rfl, ho1, hb1⟩; obtain ⟨A1, c1, rfl, hrv1, _, _, _⟩ := ho1.slice; dsimp only at hrv1 ⊢; rw [HM.out]; have H1 := Lib.hid (below_new hb1); clear hb1 ho1 hrv1)
    go_ret
    refine ⟨?_, H1.out⟩; go_num
  · have hpk : putKeyS ⟨i, a, s, c⟩ = ([], 2) := if_neg hm
    rw [hpk] at HC
    rw [if_neg hm]
    clear hm hpk ha
    go_enter Try.func32, Try.ntmps32
    go_wp2_with (go_at_call 34; refine (HC.out _).mono ?_; rintro e w1 ⟨v1, rfl, ho1, hb1⟩; have H1 := Lib.hid (below_new hb1); clear hb1 ho1)
    go_ret
    refine ⟨?_, H1.out⟩; go_num
end Go.Proofs.Ytlioclicopakbaa
