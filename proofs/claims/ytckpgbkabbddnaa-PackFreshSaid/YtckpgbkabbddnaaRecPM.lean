import Derived.Test.YtckpgbkabbddnaaRecBM
import Derived.Test.YtckpgbkabbddnaaSealPM
set_option linter.unusedVariables false
set_option linter.unusedSimpArgs false
/- Layer 11: contract of Put. -/
namespace Go.Proofs.Ytckpgbkabbddnaa
open Go.RowKit

def recPutS (s : Int) (cs : List Chg) : List UInt8 × Nat := if bodyOk cs then putPageS s 2 (bodyB cs) else ([], 2)

set_option maxRecDepth 100000 in
set_option maxHeartbeats 1000000 in
theorem recPut_any (w : World) (s : Int) (A : Option Addr) (n d : Nat) (cs : List Chg) (h : ChgsIn w A n cs) (hn : n ≤ maxLen) :
    Calls Try.prog 23 #[.int .i64 s, .slice A n d] w (PutPageEnd w (recPutS s cs)) := by
  have H := Lib.hid (recBody_any w A n d cs h hn)
  clear h
  by_cases hb : bodyOk cs
  · have h1 : bodyS' cs = (bodyB cs, true) := if_pos hb
    have h2 : recPutS s cs = putPageS s 2 (bodyB cs) := if_pos hb
    rw [h1] at H
    rw [h2]
    clear h1 h2 hb
    generalize bodyB cs = X at *
    go_enter Try.func23, Try.ntmps23
    go_wp2_with fail
    refine H.out.mono ?_
    rintro e w1 ⟨v1, rfl, ho1, hb1⟩
    obtain ⟨A1, d1, rfl, hrv, hl, hm, _⟩ := ho1.slice
    have H1 := Lib.hid (And.intro hb1 (And.intro hrv (Nat.le_trans hl hm)))
    clear hb1 hrv hl hm ho1
    dsimp only
    go_wp2_with fail
    refine (putPage_any w1 s 2 A1 d1 X H1.out.2.1 H1.out.2.2).mono ?_
    rintro e w3 ⟨v3, rfl, ho3, hb3⟩
    have H3 := Lib.hid (And.intro ho3 hb3)
    clear ho3 hb3
    go_wp2_with fail
    go_ret2
    exact ⟨_, rfl, H3.out.1.lower H1.out.1.size, below_then H1.out.1 H1.out.1.size H3.out.2⟩
  · have h1 : bodyS' cs = ([], false) := if_neg hb
    have h2 : recPutS s cs = ([], 2) := if_neg hb
    rw [h1] at H
    rw [h2]
    clear h1 h2 hb
    go_enter Try.func23, Try.ntmps23
    go_wp2_with fail
    refine H.out.mono ?_
    rintro e w1 ⟨v1, rfl, ho1, hb1⟩
    have H1 := Lib.hid hb1
    clear hb1 ho1
    dsimp only
    go_wp2_with fail
    go_ret2
    exact ⟨_, rfl, OwnB.nil _ _ _, H1.out⟩
end Go.Proofs.Ytckpgbkabbddnaa
