import Derived.Deep.QuietTactic
import Derived.BigQuiet
import Derived.Test.YtdagdjaefgadfaaProg
import Derived.Test.YtdagdjaefgadfaaMBase
import Derived.Test.YtdagdjaefgadfaaMPlain
set_option linter.unusedVariables false
set_option linter.unusedSimpArgs false
/- Contract of the statements' own comparison of bytes. -/
namespace Go.Proofs.Ytdagdjaefgadfaa
open Go.RowKit

theorem byte_ne_iff {xs ys : List UInt8} {k : Nat} {a b : UInt8} (hx : xs[k]? = some a) (hy : ys[k]? = some b) (hne : ((a.toNat : Int) != (b.toNat : Int)) = true) : xs ≠ ys := by
  rintro rfl
  rw [hx] at hy
  obtain rfl := Option.some.inj hy
  simp at hne
theorem take_succ_eq {xs ys : List UInt8} {k : Nat} {a b : UInt8} (hx : xs[k]? = some a) (hy : ys[k]? = some b) (he : ((a.toNat : Int) != (b.toNat : Int)) = false) (h : xs.take k = ys.take k) : xs.take (k + 1) = ys.take (k + 1) := by
  have h1 : (a.toNat : Int) = b.toNat := by simpa using he
  obtain rfl : a = b := UInt8.toNat.inj (by omega)
  rw [List.take_add_one, List.take_add_one, hx, hy, h]

set_option maxHeartbeats 400000 in
theorem same_any (A B : Option Addr) (c d : Nat) (xs ys : List UInt8) (w : World) (ha : RV w A (bv xs)) (hb : RV w B (bv ys)) (lx : xs.length ≤ maxLen) (ly : ys.length ≤ maxLen) :
    Calls Try.prog 20 #[.slice A xs.length c, .slice B ys.length d] w fun e w' => e = .returned (.bool (decide (xs = ys))) ∧ Drawn w w' := by
  unfold maxLen at lx ly
  by_cases hl : xs.length = ys.length
  · have Hl := Lib.hid hl
    have hn : ((xs.length : Int) != (ys.length : Int)) = false := by simp [hl]
    have Ha := Lib.hid ha
    have Hb := Lib.hid hb
    clear ha hb hl
    go_enter Try.func20, Try.ntmps20
    go_wp2_with fail
    go_loopg [5] (xs.length) (fun k i wr => ∃ j n : Nat, j + k = xs.length ∧ i = .int .i64 j ∧ wr = w.drewN n ∧ xs.take j = ys.take j)
    case atStart => exact ⟨0, 0, by omega, rfl, rfl, rfl⟩
    case round =>
      obtain ⟨j, n, hj, rfl, rfl, ht⟩ := hrel
      have Ht := Lib.hid ht
      have Hj := Lib.hid hj
      by_cases hlt : j < xs.length
      · obtain ⟨ad, rfl, hc⟩ := Ha.out (by rw [bv_length]; omega)
        obtain ⟨bd, rfl, hd⟩ := Hb.out (by rw [bv_length]; have := Hl.out; omega)
        have hj2 : j < ys.length := by have := Hl.out; omega
        have e1 : xs[j]? = some xs[j] := List.getElem?_eq_getElem hlt
        have e2 : ys[j]? = some ys[j] := List.getElem?_eq_getElem hj2
        generalize xs[j] = a at e1
        generalize ys[j] = b at e2
        have c1 := hc j (.int .u8 a.toNat) (by rw [bv_get, e1]; rfl)
        have c2 := hd j (.int .u8 b.toNat) (by rw [bv_get, e2]; rfl)
        have E1 := Lib.hid e1
        have E2 := Lib.hid e2
        clear hc hd e1 e2 ht hj
        go_wp2_with fail
        go_quiet (fail)
        go_wp2_with fail
        · have hne := byte_ne_iff E1.out E2.out ‹_›
          go_ret
          exact ⟨ret_bool (decide_eq_false hne).symm, (Drawn.mk w n).step nq⟩
        · have hne := take_succ_eq E1.out E2.out ‹_› Ht.out
          have Hne := Lib.hid hne
          clear hne
          go_roundg (xs.length - (j + 1))
          case measure => have := Hj.out; omega
          case rel => exact ⟨j + 1, n + nq, by omega, by go_num, rfl, Hne.out⟩
      · have hj0 : j = xs.length := by have := Hj.out; omega
        subst hj0
        go_wp2_with fail
        go_ret
        have h1 := Ht.out
        rw [List.take_of_length_le (Nat.le_refl _), List.take_of_length_le (by have := Hl.out; omega)] at h1
        exact ⟨ret_bool (decide_eq_true h1).symm, Drawn.mk w n⟩
  · have hn : ((xs.length : Int) != (ys.length : Int)) = true := by simp; omega
    have hne : xs ≠ ys := fun h => hl (by rw [h])
    have Hne := Lib.hid hne
    clear hl hne
    go_enter Try.func20, Try.ntmps20
    go_wp2_with fail
    go_ret
    exact ⟨ret_bool (decide_eq_false Hne.out).symm, Drawn.refl w⟩
end Go.Proofs.Ytdagdjaefgadfaa

/- Same, of what a call owns and of what came in. -/
namespace Go.Proofs.Ytdagdjaefgadfaa
open Go.RowKit

theorem u8_byte {x : Int} (h : (Lit.int .u8 x).wf = true) : ∃ b : UInt8, x = (b.toNat : Int) := by
  simp [Lit.wf, IntKind.min, IntKind.max, IntKind.signed, IntKind.bits] at h
  refine ⟨UInt8.ofNat x.toNat, ?_⟩
  rw [UInt8.toNat_ofNat']
  omega
/-- Two slices of the call's own. -/
theorem same_oo (w : World) (b1 b2 : Nat) (v1 v2 : Value) (xs ys : List UInt8) (h1 : OwnB 5 w b1 v1 xs) (h2 : OwnB 5 w b2 v2 ys) :
    Calls Try.prog 20 #[v1, v2] w fun e w' => e = .returned (.bool (decide (xs = ys))) ∧ Drawn w w' := by
  obtain ⟨A, c, rfl, hr, hl, hc, _⟩ := h1.slice
  obtain ⟨B, d, rfl, hs, hl2, hd, _⟩ := h2.slice
  exact same_any A B c d xs ys w hr hs (Nat.le_trans hl hc) (Nat.le_trans hl2 hd)
/-- One of the call's own, one that came in. -/
theorem same_ov (w : World) (b1 : Nat) (v1 : Value) (xs : List UInt8) (B : Option Addr) (d : Nat) (ys : List UInt8) (h1 : OwnB 5 w b1 v1 xs) (hs : RV w B (bv ys)) (hy : ys.length ≤ maxLen) :
    Calls Try.prog 20 #[v1, .slice B ys.length d] w fun e w' => e = .returned (.bool (decide (xs = ys))) ∧ Drawn w w' := by
  obtain ⟨A, c, rfl, hr, hl, hc, _⟩ := h1.slice
  exact same_any A B c d xs ys w hr hs (Nat.le_trans hl hc) hy
/-- .. of a length that is known. -/
theorem same_at (w : World) (b1 : Nat) (v1 : Value) (xs : List UInt8) (B : Option Addr) (d n : Nat) (ys : List UInt8) (hn : ys.length = n) (h1 : OwnB 5 w b1 v1 xs) (hs : RV w B (bv ys)) (hy : n ≤ maxLen := by decide) :
    Calls Try.prog 20 #[v1, .slice B n d] w fun e w' => e = .returned (.bool (decide (xs = ys))) ∧ Drawn w w' := by
  subst hn
  exact same_ov w b1 v1 xs B d ys h1 hs hy
end Go.Proofs.Ytdagdjaefgadfaa

/- Changes that are compared: the same ones: contract. -/
namespace Go.Proofs.Ytdagdjaefgadfaa
open Go.RowKit

theorem quiet_drawnC {P : Program} {f : FuncId} {args : Array Value} {w : World} {n : Nat} {v : Value} (h : Calls P f args (w.drewN n) fun e w' => e = .returned v ∧ Drawn (w.drewN n) w') : Calls P f args (w.drewN n) fun e w'' => e = .returned v ∧ ∃ m, w'' = w.drewN m :=
  h.mono fun _ _ ⟨he, k, hk⟩ => ⟨he, n + k, by rw [hk, World.drewN_drewN]⟩
theorem quiet_drawnC2 {P : Program} {f : FuncId} {args : Array Value} {w : World} {t n : Nat} {v : Value} (h : Calls P f args (w.drewN (t + n)) fun e w' => e = .returned v ∧ Drawn (w.drewN (t + n)) w') : Calls P f args (w.drewN (t + n)) fun e w'' => e = .returned v ∧ ∃ m, w'' = w.drewN (t + m) :=
  h.mono fun _ _ ⟨he, k, hk⟩ => ⟨he, n + k, by rw [hk, World.drewN_drewN, Nat.add_assoc]⟩

set_option maxRecDepth 100000 in
set_option maxHeartbeats 2000000 in
theorem dChgs_eq (w : World) (A : Option Addr) (n d : Nat) (l : List Chg) (h : ChgsIn w A n l) (B : Option Addr) (e : Nat) (h' : ChgsIn w B n l) (hn : n ≤ 140737488351232) :
    Calls Try.prog 11 #[.slice A n d, .slice B n e] w fun e w' => e = .returned (.bool true) ∧ Drawn w w' := by
  have H := Lib.hid (And.intro h (And.intro h.1 h'))
  have hnn : ((n : Int) != (n : Int)) = false := by simp
  clear h h'
  go_enter Try.func11, Try.ntmps11
  go_wp2_with fail
  go_loopg [5] n (fun k i wr => ∃ j t : Nat, j + k = n ∧ i = .int .i64 j ∧ wr = w.drewN t)
  case atStart => exact ⟨0, 0, by omega, rfl, rfl⟩
  case round =>
    obtain ⟨j, t, hj, rfl, rfl⟩ := hrel
    have HX := Lib.hid hj
    clear hj
    by_cases hlt : j < n
    · obtain ⟨f, hf⟩ : ∃ f, l[j]? = some f := ⟨_, List.getElem?_eq_getElem (by have := H.out.2.1; omega)⟩
      obtain ⟨okf, ad, B1, d1, hA, hr1, l1, l2, hblk, x0, x1, x2, x3, x4, x5⟩ := ChgsIn.at_ H.out.1 hf
      obtain ⟨okf', ad', B2, d2, hA', hr1', l1', l2', hblk', y0, y1, y2, y3, y4, y5⟩ := ChgsIn.at_ H.out.2.2 hf
      subst hA hA'
      have hjn : (j : Int) < (n : Int) := by omega
      have HV := Lib.hid (And.intro hr1 (And.intro (Nat.le_trans l1 l2) (And.intro hr1' (Nat.le_trans l1' l2'))))
      clear hf hr1 hr1' l1 l2 l1' l2' okf okf'
      obtain ⟨⟨fi, fa, fs, fc⟩, fv, gn⟩ := f
      dsimp only at x0 x1 x2 x3 x4 x5 y0 y1 y2 y3 y4 y5 HV
      have HC := Lib.hid (fun w' (hd : Drawn w w') => same_any B1 B2 d1 d2 fv fv w' (HV.out.1.below (hd.below _)) (HV.out.2.2.1.below (hd.below _)) HV.out.2.1 HV.out.2.1)
      rw [decide_eq_true rfl] at HC
      go_wp2_with fail
      go_quiet ((go_at_call 20; first | exact quiet_drawnC (HC.out _ ((Drawn.mk w t).step _)) | exact quiet_drawnC2 (HC.out _ (Drawn.mk w _))))
      rw [World.drewN_drewN]
      generalize t + nq = tB
      clear nq
      go_wp2_with fail
      go_roundg (n - (j + 1))
      case measure => have := HX.out; omega
      case rel => exact ⟨j + 1, tB, by have := HX.out; omega, by go_num, rfl⟩
    · obtain rfl : j = n := by have := HX.out; omega
      have hge : ¬ (j : Int) < (j : Int) := by omega
      go_wp2_with fail
      go_ret
      exact ⟨rfl, Drawn.mk w t⟩
end Go.Proofs.Ytdagdjaefgadfaa
