import Derived.Test.YtckpgbkabbddnaaMPut
import Derived.Test.YtckpgbkabbddnaaMPlain
set_option linter.unusedVariables false
set_option linter.unusedSimpArgs false
/- Layer 13: how many bytes a fact takes: contract. -/
namespace Go.Proofs.Ytckpgbkabbddnaa
open Go.RowKit

def costS (f : Fct) : Nat := if mayK f.key then 2 + (keyB f.key).length + f.val.length else 0
theorem keyB_le' {k : Ky} (h : mayK k) : (keyB k).length ≤ 17 := by have := keyB_length h; omega

set_option maxRecDepth 100000 in
set_option maxHeartbeats 1000000 in
theorem cost_any (w : World) (f : Fct) (hs : okKy f.key) (A : Option Addr) (n d : Nat) (hn : f.val.length = n) (hn2 : n ≤ 140737488351232) :
    Calls Try.prog 14 #[.agg #[.int .i64 f.key.ino, .int .u8 (f.key.what.toNat : Int), .string f.key.name, .int .i64 f.key.chunk, .slice A n d]] w
      fun e w' => e = .returned (.int .i64 (costS f : Int)) ∧ Below w.heap.size w w' := by
  have hC := fun w => putKey_any w f.key hs
  have HC := Lib.hid hC
  clear hC
  unfold costS
  rw [hn]
  obtain ⟨⟨i, a, s, c⟩, l⟩ := f
  unfold Ky.val at HC
  dsimp only at HC ⊢
  have hblk := Blk.new w 41 #[.int .i64 i, .int .u8 (a.toNat : Int), .string s, .int .i64 c, .slice A n d]
  have HB := Lib.hid hblk
  clear hblk hn

  by_cases hm : mayK ⟨i, a, s, c⟩
  · have hpk : putKeyS ⟨i, a, s, c⟩ = (keyB ⟨i, a, s, c⟩, 0) := if_pos hm
    rw [hpk] at HC
    have hkl := keyB_le' hm
    rw [if_pos hm]
    generalize keyB ⟨i, a, s, c⟩ = kb at *
    clear hm hpk
    obtain ⟨m, hm⟩ : ∃ m, kb.length = m := ⟨_, rfl⟩
    rw [hm] at hkl ⊢
    have HM := Lib.hid hm
    clear hm
    go_enter Try.func14, Try.ntmps14
    go_wp2_with (go_at_call 35; refine (HC.out _).mono ?_; rintro e w1 ⟨v1, rfl, ho1, hb1⟩; obtain ⟨A1, c1, rfl, hrv1, _, _, _⟩ := ho1.slice; dsimp only at hrv1 ⊢; rw [HM.out]; have k0 := HB.out.below hb1 HB.out.lt; have c4 := k0.cell 4; simp at c4; have H1 := Lib.hid (below_new hb1); clear hb1 ho1 k0 hrv1)
    go_ret
    refine ⟨?_, H1.out⟩; go_num
  · have hpk : putKeyS ⟨i, a, s, c⟩ = ([], 2) := if_neg hm
    rw [hpk] at HC
    rw [if_neg hm]
    clear hm hpk
    go_enter Try.func14, Try.ntmps14
    go_wp2_with (go_at_call 35; refine (HC.out _).mono ?_; rintro e w1 ⟨v1, rfl, ho1, hb1⟩; have H1 := Lib.hid (below_new hb1); clear hb1 ho1)
    go_ret
    refine ⟨?_, H1.out⟩; go_num
end Go.Proofs.Ytckpgbkabbddnaa
