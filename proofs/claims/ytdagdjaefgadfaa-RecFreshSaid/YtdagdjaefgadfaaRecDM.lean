import Derived.Test.YtdagdjaefgadfaaDRecBM
import Derived.Test.YtdagdjaefgadfaaMTake
import Derived.Test.YtdagdjaefgadfaaMRef
import Derived.Test.YtdagdjaefgadfaaRefM
set_option linter.unusedVariables false
set_option linter.unusedSimpArgs false
/- Layer 11: Length; drops: contracts, the document's too. -/
namespace Go.Proofs.Ytdagdjaefgadfaa
open Go.RowKit

def lenRecS (cs : List Chg) : Nat := if bodyOk cs then (bodyB cs).length else 0
theorem lenRec_any (w : World) (A : Option Addr) (n d : Nat) (cs : List Chg) (h : ChgsIn w A n cs) (hn : n ≤ maxLen) :
    Calls Try.prog 21 #[.slice A n d] w fun e w' => e = .returned (.int .i64 (lenRecS cs : Int)) ∧ Below w.heap.size w w' := by
  have H := Lib.hid (recBody_any w A n d cs h hn)
  have hl : lenRecS cs = (bodyS' cs).1.length := by unfold lenRecS bodyS'; split <;> rfl
  rw [hl]
  clear h hl
  generalize bodyS' cs = r at *
  obtain ⟨X, b⟩ := r
  go_enter Try.func21, Try.ntmps21
  go_wp2_with fail
  refine H.out.mono ?_
  rintro e w1 ⟨v1, rfl, ho1, hb1⟩
  obtain ⟨A1, d1, rfl, hrv, hl, hm, _⟩ := ho1.slice
  have H1 := Lib.hid hb1
  clear hb1 hrv ho1
  dsimp only at hl ⊢
  go_wp2_with fail
  go_ret
  exact ⟨rfl, H1.out⟩
theorem dLenRec_any (w : World) (A : Option Addr) (n d : Nat) (cs : List Chg) (h : ChgsIn w A n cs) (hn : n ≤ maxLen) :
    Calls Try.prog 22 #[.slice A n d] w fun e w' => e = .returned (.int .i64 (lenRecS cs : Int)) ∧ Below w.heap.size w w' := by
  have HM := dMays_any w A n d cs h hn
  have H := Lib.hid h
  by_cases hb : bodyOk cs
  · rw [decide_eq_true hb] at HM
    have HM := Lib.hid HM
    have HBD := Lib.hid (fun w h => dRecBody_any w A n d cs h hb)
    rw [show lenRecS cs = (bodyB cs).length from if_pos hb]
    clear h hb
    generalize bodyB cs = X at *
    go_enter Try.func22, Try.ntmps22
    go_wp2_with fail
    refine HM.out.mono ?_
    rintro e w0 ⟨rfl, hb0⟩
    have H0 := Lib.hid (And.intro hb0 (ListIn.below chg_len (by decide) H.out hb0))
    clear hb0
    go_wp2_with fail
    refine (HBD.out w0 H0.out.2).mono ?_
    rintro e w1 ⟨v1, rfl, ho1, hb1⟩
    obtain ⟨A1, d1, rfl, hrv, hl, hm, _⟩ := ho1.slice
    have H1 := Lib.hid (below_then H0.out.1 H0.out.1.size hb1)
    clear hb1 hrv ho1
    go_wp2_with fail
    go_ret
    exact ⟨rfl, H1.out⟩
  · rw [decide_eq_false hb] at HM
    have HM := Lib.hid HM
    rw [show lenRecS cs = 0 from if_neg hb]
    clear h hb
    go_enter Try.func22, Try.ntmps22
    go_wp2_with fail
    refine HM.out.mono ?_
    rintro e w0 ⟨rfl, hb0⟩
    have H0 := Lib.hid hb0
    clear hb0
    go_wp2_with fail
    go_ret
    exact ⟨rfl, H0.out⟩

/-! ### drops -/
def putDropS (s : Int) (q : Nat) : List UInt8 × Nat := if q = 0 then ([], 2) else putPageS s 3 (digs q 8)
theorem e8 : (256 : Nat) ^ 8 = 18446744073709551616 := by decide
theorem isSz8 : IsSz ((8 : Nat) : Int) := .inr (.inr (.inr rfl))

set_option maxHeartbeats 400000 in
theorem putDrop_any (w : World) (s : Int) (q : Nat) (hq : q < 18446744073709551616) :
    Calls Try.prog 23 #[.int .i64 s, .int .u64 (q : Int)] w (PutPageEnd w (putDropS s q)) := by
  by_cases h0 : q = 0
  · have t1 : ((q : Int) == 0) = true := by rw [h0]; rfl
    rw [show putDropS s q = ([], 2) from if_pos h0]
    clear h0
    go_enter Try.func23, Try.ntmps23
    go_wp2_with fail
    go_ret2
    exact ⟨_, rfl, OwnB.nil _ _ _, Below.refl _ _⟩
  · have t1 : ((q : Int) == 0) = false := beq_eq_false_iff_ne.2 (by omega)
    rw [show putDropS s q = putPageS s 3 (digs q 8) from if_neg h0]
    have HP := Lib.hid (put_ok q 8 w isSz8 (by rw [e8]; exact hq) hq)
    clear h0
    have hdl := digs_length q 8
    generalize digs q 8 = X at *
    have HX := Lib.hid hdl
    clear hdl
    go_enter Try.func23, Try.ntmps23
    go_wp2_with fail
    refine HP.out.mono ?_
    rintro e w1 ⟨v1, rfl, ho1, hb1⟩
    obtain ⟨A1, d1, rfl, hrv, hl, hm, _⟩ := ho1.slice
    have H1 := Lib.hid (And.intro hb1 (And.intro hrv (Nat.le_trans hl hm)))
    clear hb1 hrv hl hm ho1
    go_wp2_with fail
    refine (putPage_any w1 s 3 A1 d1 X H1.out.2.1 H1.out.2.2).mono ?_
    rintro e w3 ⟨v3, rfl, ho3, hb3⟩
    have H3 := Lib.hid (And.intro ho3 hb3)
    clear ho3 hb3
    go_wp2_with fail
    go_ret2
    exact ⟨_, rfl, H3.out.1.lower H1.out.1.size, below_then H1.out.1 H1.out.1.size H3.out.2⟩

set_option maxHeartbeats 400000 in
theorem dPutDrop_any (w : World) (s : Int) (q : Nat) (hq : q < 18446744073709551616) :
    Calls Try.prog 24 #[.int .i64 s, .int .u64 (q : Int)] w (PutPageEnd w (putDropS s q)) := by
  by_cases h0 : q = 0
  · have t1 : ((q : Int) == 0) = true := by rw [h0]; rfl
    rw [show putDropS s q = ([], 2) from if_pos h0]
    clear h0
    go_enter Try.func24, Try.ntmps24
    go_wp2_with fail
    go_ret2
    exact ⟨_, rfl, OwnB.nil _ _ _, Below.refl _ _⟩
  · have t1 : ((q : Int) == 0) = false := beq_eq_false_iff_ne.2 (by omega)
    rw [show putDropS s q = putPageS s 3 (digs q 8) from if_neg h0]
    have HP : Calls Try.prog 46 #[.int .u64 q, .int .i64 8] w fun e w' => ∃ v, e = .returned (.tuple #[v, .int .i64 0]) ∧ OwnB 5 w' w.heap.size v (digs q 8) ∧ Below w.heap.size w w' :=
      (rput_any w q 8 isSz8 hq).mono fun e w' ⟨hb, h⟩ => by
        rcases h with ⟨_, v, he, ho⟩ | ⟨h, _⟩
        · exact ⟨v, he, ho, hb⟩
        · rw [e8] at h; omega
    have HP := Lib.hid HP
    clear h0
    generalize digs q 8 = X at *
    go_enter Try.func24, Try.ntmps24
    go_wp2_with fail
    refine HP.out.mono ?_
    rintro e w1 ⟨v1, rfl, ho1, hb1⟩
    obtain ⟨A1, d1, rfl, hrv, hl, hm, _⟩ := ho1.slice
    have H1 := Lib.hid (And.intro hb1 (And.intro hrv (Nat.le_trans hl hm)))
    clear hb1 hrv hl hm ho1
    go_wp2_with fail
    refine (dPut_any w1 s 3 A1 d1 X H1.out.2.1 H1.out.2.2).mono ?_
    rintro e w3 ⟨v3, rfl, ho3, hb3⟩
    have H3 := Lib.hid (And.intro ho3 hb3)
    clear ho3 hb3
    go_wp2_with fail
    go_ret2
    exact ⟨_, rfl, H3.out.1.lower H1.out.1.size, below_then H1.out.1 H1.out.1.size H3.out.2⟩

def getDropS (xs : List UInt8) : Nat × Nat := if xs.length ≠ 8 ∨ leval xs = 0 then (0, 5) else (leval xs, 0)
def DropEnd (w : World) (r : Nat × Nat) (e : Ending) (w' : World) : Prop := e = .returned (.tuple #[.int .u64 (r.1 : Int), .int .i64 (r.2 : Int)]) ∧ Below w.heap.size w w'

set_option maxHeartbeats 400000 in
theorem getDrop_any (w : World) (A : Option Addr) (n c : Nat) (xs : List UInt8) (hn : xs.length = n) (hr : RV w A (bv xs)) (hx : n ≤ 140737488355328) :
    Calls Try.prog 25 #[.slice A n c] w (DropEnd w (getDropS xs)) := by
  have HN := fun w h => new_any w A c xs h (by omega)
  rw [hn] at HN
  have HN := Lib.hid HN
  have HR := Lib.hid hr
  clear hr
  obtain ⟨r, hrr⟩ : ∃ r, getDropS xs = r := ⟨_, rfl⟩
  rw [hrr]
  unfold getDropS at hrr
  rw [hn] at hrr
  have htk : takeS (some xs) 8 = if n < 8 then (0, 4, none) else (leval (xs.take 8), 0, some (xs.drop 8)) := by simp [takeS, hn]
  rcases (show n < 8 ∨ n = 8 ∨ 8 < n by omega) with h | h | h
  · rw [if_pos h] at htk
    rw [if_pos (.inl (by omega))] at hrr
    have HK := Lib.hid (And.intro htk hrr)
    clear htk hrr hn
    go_enter Try.func25, Try.ntmps25
    go_wp2_with fail
    refine (HN.out w HR.out).mono ?_
    rintro e w1 ⟨g, hh, rfl, hrd, hb1, hg1, hg2, hh1⟩
    have H1 := Lib.hid (And.intro hrd (And.intro hb1 (And.intro hg1 hb1.size)))
    clear hrd hb1 hh1
    go_wp2_with fail
    refine (take_any H1.out.1 isSz8).mono ?_
    rintro e w2 ⟨rfl, _, hgr⟩
    rw [HK.out.1]
    have H2 := Lib.hid (below_grown H1.out.2.1 hgr H1.out.2.2.2 H1.out.2.2.1)
    clear hgr
    dsimp only
    go_wp2_with fail
    go_ret2
    rw [← HK.out.2]
    exact ⟨rfl, H2.out⟩
  · subst h
    rw [if_neg (by omega), List.take_of_length_le (by omega)] at htk
    have hlv := leval_lt64 xs (by omega)
    by_cases h0 : leval xs = 0
    · rw [if_pos (.inr h0)] at hrr
      rw [h0] at htk
      have HK := Lib.hid (And.intro htk hrr)
      clear htk hrr hn h0
      go_enter Try.func25, Try.ntmps25
      go_wp2_with fail
      refine (HN.out w HR.out).mono ?_
      rintro e w1 ⟨g, hh, rfl, hrd, hb1, hg1, hg2, hh1⟩
      have H1 := Lib.hid (And.intro hrd (And.intro hb1 (And.intro hg1 hb1.size)))
      clear hrd hb1 hh1
      go_wp2_with fail
      refine (take_any H1.out.1 isSz8).mono ?_
      rintro e w2 ⟨rfl, _, hgr⟩
      rw [HK.out.1]
      have H2 := Lib.hid (below_grown H1.out.2.1 hgr H1.out.2.2.2 H1.out.2.2.1)
      clear hgr
      dsimp only
      go_wp2_with fail
      go_ret2
      rw [← HK.out.2]
      exact ⟨rfl, H2.out⟩
    · rw [if_neg (by omega)] at hrr
      have t1 : ((leval xs : Int) == 0) = false := beq_eq_false_iff_ne.2 (by omega)
      have HK := Lib.hid (And.intro htk hrr)
      clear htk hrr hn h0
      generalize leval xs = q at *
      go_enter Try.func25, Try.ntmps25
      go_wp2_with fail
      refine (HN.out w HR.out).mono ?_
      rintro e w1 ⟨g, hh, rfl, hrd, hb1, hg1, hg2, hh1⟩
      have H1 := Lib.hid (And.intro hrd (And.intro hb1 (And.intro hg1 hb1.size)))
      clear hrd hb1 hh1
      go_wp2_with fail
      refine (take_any H1.out.1 isSz8).mono ?_
      rintro e w2 ⟨rfl, _, hgr⟩
      rw [HK.out.1]
      have H2 := Lib.hid (below_grown H1.out.2.1 hgr H1.out.2.2.2 H1.out.2.2.1)
      clear hgr
      dsimp only
      go_wp2_with fail
      go_ret2
      rw [← HK.out.2]
      exact ⟨rfl, H2.out⟩
  · rw [if_neg (by omega)] at htk
    rw [if_pos (.inl (by omega))] at hrr
    have t1 : ((n : Int) != 8) = true := by simp; omega
    have HK := Lib.hid (And.intro htk hrr)
    clear htk hrr hn
    generalize leval (xs.take 8) = q at *
    go_enter Try.func25, Try.ntmps25
    go_wp2_with fail
    refine (HN.out w HR.out).mono ?_
    rintro e w1 ⟨g, hh, rfl, hrd, hb1, hg1, hg2, hh1⟩
    have H1 := Lib.hid (And.intro hrd (And.intro hb1 (And.intro hg1 hb1.size)))
    clear hrd hb1 hh1
    go_wp2_with fail
    refine (take_any H1.out.1 isSz8).mono ?_
    rintro e w2 ⟨rfl, _, hgr⟩
    rw [HK.out.1]
    have H2 := Lib.hid (below_grown H1.out.2.1 hgr H1.out.2.2.2 H1.out.2.2.1)
    clear hgr
    dsimp only
    go_wp2_with fail
    go_ret2
    rw [← HK.out.2]
    exact ⟨rfl, H2.out⟩

/-- The document's reader over bytes that came in. -/
theorem rdr_over {w : World} {A : Option Addr} {n c : Nat} {xs : List UInt8} (hn : xs.length = n) (hr : RV w A (bv xs)) (h0 : 0 < n) (hc : n ≤ c) (hm : c ≤ maxLen) :
    ∃ h, RdR (w.alloc (.cells #[.slice A n c, .bool false] 62)) w.heap.size h (some xs) := by
  subst hn
  obtain ⟨ad, rfl, _⟩ := hr (by rw [bv_length]; exact h0)
  have hlt := hr.lt rfl (by rw [bv_length]; exact h0)
  exact ⟨some ad.block, fun e => by injection e with e; omega, xs, false, some ad, c, Blk.new _ _ _, hr.alloc _, hc, hm, fun _ h => by injection h with h; rw [h], rfl⟩

set_option maxHeartbeats 400000 in
theorem dGetDrop_any (w : World) (A : Option Addr) (n c : Nat) (xs : List UInt8) (hn : xs.length = n) (hr : RV w A (bv xs)) (hc : n ≤ c) (hm : c ≤ maxLen) :
    Calls Try.prog 26 #[.slice A n c] w (DropEnd w (getDropS xs)) := by
  obtain ⟨r, hrr⟩ : ∃ r, getDropS xs = r := ⟨_, rfl⟩
  rw [hrr]
  unfold getDropS at hrr
  rw [hn] at hrr
  by_cases h : n = 8
  · subst h
    obtain ⟨hh, hrd⟩ := rdr_over hn hr (by decide) hc hm
    have htk : takeS (some xs) 8 = (leval xs, 0, some (xs.drop 8)) := by simp [takeS, hn]; rw [List.take_of_length_le (by omega)]
    have HT := rtake_ok hrd isSz8 (by omega)
    unfold RTakeEnd at HT
    rw [htk] at HT
    have HT := Lib.hid HT
    have hlv := leval_lt64 xs (by omega)
    have hb0 : Below w.heap.size w (w.alloc (.cells #[.slice A 8 c, .bool false] 62)) := (Below.refl _ _).alloc (Nat.le_refl _) _
    have HB := Lib.hid hb0
    clear htk hrd hn hr hb0
    by_cases h0 : leval xs = 0
    · rw [if_pos (.inr h0)] at hrr
      rw [h0] at HT
      have HK := Lib.hid hrr
      clear hrr h0
      go_enter Try.func26, Try.ntmps26
      go_wp2_with fail
      refine HT.out.mono ?_
      rintro e w2 ⟨rfl, _, hgr⟩
      have H2 := Lib.hid (below_grown HB.out hgr HB.out.size (Nat.le_refl _))
      clear hgr
      dsimp only
      go_wp2_with fail
      go_ret2
      rw [← HK.out]
      exact ⟨rfl, H2.out⟩
    · rw [if_neg (by omega)] at hrr
      have t1 : ((leval xs : Int) == 0) = false := beq_eq_false_iff_ne.2 (by omega)
      have HK := Lib.hid hrr
      clear hrr h0
      generalize leval xs = q at *
      go_enter Try.func26, Try.ntmps26
      go_wp2_with fail
      refine HT.out.mono ?_
      rintro e w2 ⟨rfl, _, hgr⟩
      have H2 := Lib.hid (below_grown HB.out hgr HB.out.size (Nat.le_refl _))
      clear hgr
      dsimp only
      go_wp2_with fail
      go_ret2
      rw [← HK.out]
      exact ⟨rfl, H2.out⟩
  · rw [if_pos (.inl h)] at hrr
    have t1 : ((n : Int) != 8) = true := by simp; omega
    have HK := Lib.hid hrr
    clear hrr h hn hr
    go_enter Try.func26, Try.ntmps26
    go_wp2_with fail
    go_ret2
    rw [← HK.out]
    exact ⟨rfl, Below.refl _ _⟩
end Go.Proofs.Ytdagdjaefgadfaa
