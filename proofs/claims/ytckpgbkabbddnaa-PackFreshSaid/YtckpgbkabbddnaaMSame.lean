import Derived.Deep.QuietTactic
import Derived.BigQuiet
import Derived.Test.YtckpgbkabbddnaaProg
import Derived.Test.YtckpgbkabbddnaaMBase
import Derived.Test.YtckpgbkabbddnaaMPlain
set_option linter.unusedVariables false
set_option linter.unusedSimpArgs false
/- Contract of the statements' own comparison of bytes. -/
namespace Go.Proofs.Ytckpgbkabbddnaa
open Go.RowKit

theorem byte_ne_iff {xs ys : List UInt8} {k : Nat} {a b : UInt8} (hx : xs[k]? = some a) (hy : ys[k]? = some b) (hne : ((a.toNat : Int) != (b.toNat : Int)) = true) : xs ≠ ys := by
  rintro rfl
  rw [hx] at hy
  obtain rfl := Option.some.inj hy
  simp at hne
theorem take_succ_eq {xs ys : List UInt8} {k : Nat} {a b : UInt8} (hx : xs[k]? = some a) (hy : ys[k]? = some b) (he : ((a.toNat : Int) != (b.toNat : Int)) = false) (h : xs.take k = ys.take k) : xs.take (k + 1) = ys.take (k + 1) := by
  have h1 : (a.toNat : Int) = b.toNat := by simpa using he
  obtain rfl : a = b := UInt8.toNat.inj (by omega)
  rw [List.take_add_one, List.take_add_one, hx, hy, h]

set_option maxHeartbeats 400000 in
theorem same_any (A B : Option Addr) (c d : Nat) (xs ys : List UInt8) (w : World) (ha : RV w A (bv xs)) (hb : RV w B (bv ys)) (lx : xs.length ≤ maxLen) (ly : ys.length ≤ maxLen) :
    Calls Try.prog 19 #[.slice A xs.length c, .slice B ys.length d] w fun e w' => e = .returned (.bool (decide (xs = ys))) ∧ Drawn w w' := by
  unfold maxLen at lx ly
  by_cases hl : xs.length = ys.length
  · have Hl := Lib.hid hl
    have hn : ((xs.length : Int) != (ys.length : Int)) = false := by simp [hl]
    have Ha := Lib.hid ha
    have Hb := Lib.hid hb
    clear ha hb hl
    go_enter Try.func19, Try.ntmps19
    go_wp2_with fail
    go_loopg [5] (xs.length) (fun k i wr => ∃ j n : Nat, j + k = xs.length ∧ i = .int .i64 j ∧ wr = w.drewN n ∧ xs.take j = ys.take j)
    case atStart => exact ⟨0, 0, by omega, rfl, rfl, rfl⟩
    case round =>
      obtain ⟨j, n, hj, rfl, rfl, ht⟩ := hrel
      have Ht := Lib.hid ht
      have Hj := Lib.hid hj
      by_cases hlt : j < xs.length
      · obtain ⟨ad, rfl, hc⟩ := Ha.out (by rw [bv_length]; omega)
        obtain ⟨bd, rfl, hd⟩ := Hb.out (by rw [bv_length]; have := Hl.out; omega)
        have hj2 : j < ys.length := by have := Hl.out; omega
        have e1 : xs[j]? = some xs[j] := List.getElem?_eq_getElem hlt
        have e2 : ys[j]? = some ys[j] := List.getElem?_eq_getElem hj2
        generalize xs[j] = a at e1
        generalize ys[j] = b at e2
        have c1 := hc j (.int .u8 a.toNat) (by rw [bv_get, e1]; rfl)
        have c2 := hd j (.int .u8 b.toNat) (by rw [bv_get, e2]; rfl)
        have E1 := Lib.hid e1
        have E2 := Lib.hid e2
        clear hc hd e1 e2 ht hj
        go_wp2_with fail
        go_quiet (fail)
        go_wp2_with fail
        · have hne := byte_ne_iff E1.out E2.out ‹_›
          go_ret
          exact ⟨ret_bool (decide_eq_false hne).symm, (Drawn.mk w n).step nq⟩
        · have hne := take_succ_eq E1.out E2.out ‹_› Ht.out
          have Hne := Lib.hid hne
          clear hne
          go_roundg (xs.length - (j + 1))
          case measure => have := Hj.out; omega
          case rel => exact ⟨j + 1, n + nq, by omega, by go_num, rfl, Hne.out⟩
      · have hj0 : j = xs.length := by have := Hj.out; omega
        subst hj0
        go_wp2_with fail
        go_ret
        have h1 := Ht.out
        rw [List.take_of_length_le (Nat.le_refl _), List.take_of_length_le (by have := Hl.out; omega)] at h1
        exact ⟨ret_bool (decide_eq_true h1).symm, Drawn.mk w n⟩
  · have hn : ((xs.length : Int) != (ys.length : Int)) = true := by simp; omega
    have hne : xs ≠ ys := fun h => hl (by rw [h])
    have Hne := Lib.hid hne
    clear hl hne
    go_enter Try.func19, Try.ntmps19
    go_wp2_with fail
    go_ret
    exact ⟨ret_bool (decide_eq_false Hne.out).symm, Drawn.refl w⟩
end Go.Proofs.Ytckpgbkabbddnaa

/- Facts that are compared: contract. -/
namespace Go.Proofs.Ytckpgbkabbddnaa
open Go.RowKit

theorem quiet_drawn {P : Program} {f : FuncId} {args : Array Value} {w : World} {n : Nat} {v : Value} (h : Calls P f args (w.drewN n) fun e w' => e = .returned v ∧ Drawn (w.drewN n) w') : Calls P f args (w.drewN n) fun e w'' => e = .returned v ∧ ∃ m, w'' = w.drewN m :=
  h.mono fun _ _ ⟨he, k, hk⟩ => ⟨he, n + k, by rw [hk, World.drewN_drewN]⟩
theorem quiet_drawn2 {P : Program} {f : FuncId} {args : Array Value} {w : World} {t n : Nat} {v : Value} (h : Calls P f args (w.drewN (t + n)) fun e w' => e = .returned v ∧ Drawn (w.drewN (t + n)) w') : Calls P f args (w.drewN (t + n)) fun e w'' => e = .returned v ∧ ∃ m, w'' = w.drewN (t + m) :=
  h.mono fun _ _ ⟨he, k, hk⟩ => ⟨he, n + k, by rw [hk, World.drewN_drewN, Nat.add_assoc]⟩
theorem key_split {a b : Ky} (h : a ≠ b) {R : Type} (x y : R) : (if a.ino = b.ino then if (a.what.toNat : Int) = (b.what.toNat : Int) then if a.name.toList = b.name.toList then if a.chunk = b.chunk then x else y else y else y else y) = y := by
  by_cases e1 : a.ino = b.ino
  · by_cases e2 : (a.what.toNat : Int) = (b.what.toNat : Int)
    · by_cases e3 : a.name.toList = b.name.toList
      · by_cases e4 : a.chunk = b.chunk
        · exfalso
          apply h
          obtain ⟨a1, a2, a3, a4⟩ := a
          obtain ⟨b1, b2, b3, b4⟩ := b
          dsimp only at e1 e2 e3 e4
          have q1 : a2 = b2 := UInt8.toNat.inj (by omega)
          have q2 : a3 = b3 := ba_ext e3
          rw [e1, q1, q2, e4]
        · rw [if_pos e1, if_pos e2, if_pos e3, if_neg e4]
      · rw [if_pos e1, if_pos e2, if_neg e3]
    · rw [if_pos e1, if_neg e2]
  · rw [if_neg e1]

set_option maxRecDepth 100000 in
set_option maxHeartbeats 2000000 in
theorem dFacts_any (w : World) (A : Option Addr) (n d : Nat) (l : List Fct) (h : FctsIn w A n l) (B : Option Addr) (m e : Nat) (l' : List Fct) (h' : FctsIn w B m l') (hn : n * 64 ≤ 140737488351232) :
    Calls Try.prog 13 #[.slice A n d, .slice B m e] w fun e w' => e = .returned (.bool (decide (l = l'))) ∧ Drawn w w' := by
  obtain ⟨r, hr⟩ : ∃ r, decide (l = l') = r := ⟨_, rfl⟩
  have H := Lib.hid (And.intro h (And.intro h.1 (And.intro h' (And.intro h'.1 hr))))
  rw [hr]
  clear h h' hr
  by_cases hnm : n = m
  · subst hnm
    go_enter Try.func13, Try.ntmps13
    go_wp2_with fail
    go_loopg [5] n (fun k i wr => ∃ j t : Nat, j + k = n ∧ i = .int .i64 j ∧ wr = w.drewN t ∧ l.take j = l'.take j)
    case atStart => exact ⟨0, 0, by omega, rfl, rfl, rfl⟩
    case round =>
      obtain ⟨j, t, hj, rfl, rfl, heq⟩ := hrel
      have HX := Lib.hid (And.intro hj heq)
      clear hj heq
      by_cases hlt : j < n
      · obtain ⟨f, hf⟩ : ∃ f, l[j]? = some f := ⟨_, List.getElem?_eq_getElem (by have := H.out.2.1; omega)⟩
        obtain ⟨f', hf'⟩ : ∃ f, l'[j]? = some f := ⟨_, List.getElem?_eq_getElem (by have := H.out.2.2.2.1; omega)⟩
        obtain ⟨okf, ad, B1, d1, hA, hr1, l1, l2, hblk, x0, x1, x2, x3, x4⟩ := FctsIn.at_ H.out.1 hf
        obtain ⟨okf', ad', B2, d2, hA', hr1', l1', l2', hblk', y0, y1, y2, y3, y4⟩ := FctsIn.at_ H.out.2.2.1 hf'
        subst hA hA'
        have hjn : (j : Int) < (n : Int) := by omega
        have HV := Lib.hid (And.intro hr1 (And.intro (Nat.le_trans l1 l2) (And.intro hr1' (Nat.le_trans l1' l2'))))
        have HF := Lib.hid (And.intro hf hf')
        clear hf hf' hr1 hr1' l1 l2 l1' l2' okf okf'
        have hne : f = f' ∨ (f.key = f'.key ∧ ¬ f.val = f'.val) ∨ f.key ≠ f'.key := by
          by_cases h1 : f.key = f'.key
          · by_cases h2 : f.val = f'.val
            · left
              obtain ⟨a, b⟩ := f
              obtain ⟨a', b'⟩ := f'
              dsimp only at h1 h2
              rw [h1, h2]
            · exact .inr (.inl ⟨h1, h2⟩)
          · exact .inr (.inr h1)
        have hdiff : f ≠ f' → false = r := by
          intro hff
          rw [← H.out.2.2.2.2]
          refine (decide_eq_false fun hll => hff ?_).symm
          have h1 := HF.out.1
          rw [hll, HF.out.2] at h1
          exact (Option.some.inj h1).symm
        have hsame : f = f' → l.take (j + 1) = l'.take (j + 1) := by
          intro hff
          rw [List.take_add_one, List.take_add_one, HX.out.2, HF.out.1, HF.out.2, hff]
        have HDS := Lib.hid (And.intro hdiff hsame)
        clear hdiff hsame
        rcases hne with rfl | ⟨hk, hv⟩ | hk
        · have HS := Lib.hid (HDS.out.2 rfl)
          obtain ⟨⟨fi, fa, fs, fc⟩, fv⟩ := f
          dsimp only at x0 x1 x2 x3 x4 y0 y1 y2 y3 y4 HV
          have HC := Lib.hid (fun w' (hd : Drawn w w') => same_any B1 B2 d1 d2 fv fv w' (HV.out.1.below (hd.below _)) (HV.out.2.2.1.below (hd.below _)) HV.out.2.1 HV.out.2.1)
          rw [decide_eq_true rfl] at HC
          go_wp2_with fail
          go_quiet ((go_at_call 19; first | exact quiet_drawn (HC.out _ ((Drawn.mk w t).step _)) | exact quiet_drawn2 (HC.out _ (Drawn.mk w _))))
          rw [World.drewN_drewN]
          generalize t + nq = tB
          clear nq
          go_wp2_with fail
          go_roundg (n - (j + 1))
          case measure => have := HX.out.1; omega
          case rel => exact ⟨j + 1, tB, by have := HX.out.1; omega, by go_num, rfl, HS.out⟩
        · have HS := Lib.hid (HDS.out.1 (fun h => hv (by rw [h])))
          obtain ⟨⟨fi, fa, fs, fc⟩, fv⟩ := f
          obtain ⟨⟨gi, ga, gs, gc⟩, gv⟩ := f'
          dsimp only at x0 x1 x2 x3 x4 y0 y1 y2 y3 y4 HV hk hv
          injection hk with e1 e2 e3 e4
          subst e1 e2 e3 e4
          have HC := Lib.hid (fun w' (hd : Drawn w w') => same_any B1 B2 d1 d2 fv gv w' (HV.out.1.below (hd.below _)) (HV.out.2.2.1.below (hd.below _)) HV.out.2.1 HV.out.2.2.2)
          rw [decide_eq_false hv] at HC
          clear hv
          go_wp2_with fail
          go_quiet ((go_at_call 19; first | exact quiet_drawn (HC.out _ ((Drawn.mk w t).step _)) | exact quiet_drawn2 (HC.out _ (Drawn.mk w _))))
          rw [World.drewN_drewN]
          generalize t + nq = tB
          clear nq
          go_wp2_with fail
          go_ret
          exact ⟨ret_bool HS.out, Drawn.mk w tB⟩
        · have HS := Lib.hid (HDS.out.1 (fun h => hk (by rw [h])))
          have hq : ∀ W : World, (if f.key.ino = f'.key.ino then if (f.key.what.toNat : Int) = (f'.key.what.toNat : Int) then if f.key.name.toList = f'.key.name.toList then if f.key.chunk = f'.key.chunk then (Result.ok (Value.bool false) W : Result Value) else Result.ok (Value.bool true) W else Result.ok (Value.bool true) W else Result.ok (Value.bool true) W else Result.ok (Value.bool true) W) = Result.ok (Value.bool true) W := fun W => key_split hk _ _
          obtain ⟨⟨fi, fa, fs, fc⟩, fv⟩ := f
          obtain ⟨⟨gi, ga, gs, gc⟩, gv⟩ := f'
          dsimp only at x0 x1 x2 x3 x4 y0 y1 y2 y3 y4 hq
          clear hk
          go_wp2_with fail
          go_quiet (fail)
          rw [World.drewN_drewN]
          generalize t + nq = tB
          clear nq
          go_wp2_with fail
          go_ret
          exact ⟨ret_bool HS.out, Drawn.mk w tB⟩
      · obtain rfl : j = n := by have := HX.out.1; omega
        have hge : ¬ (j : Int) < (j : Int) := by omega
        have hr : true = r := by
          rw [← H.out.2.2.2.2]
          have h1 := HX.out.2
          rw [List.take_of_length_le (by rw [H.out.2.1]; exact Nat.le_refl _), List.take_of_length_le (by rw [H.out.2.2.2.1]; exact Nat.le_refl _)] at h1
          exact (decide_eq_true h1).symm
        have HS := Lib.hid hr
        clear hr
        go_wp2_with fail
        go_ret
        exact ⟨ret_bool HS.out, Drawn.mk w t⟩
  · have hb : ((n : Int) != (m : Int)) = true := by simp; omega
    have hr : false = r := by
      rw [← H.out.2.2.2.2]
      refine (decide_eq_false fun hll => hnm ?_).symm
      have h1 := H.out.2.1
      have h2 := H.out.2.2.2.1
      rw [hll] at h1
      omega
    have HS := Lib.hid hr
    clear hr hnm
    go_enter Try.func13, Try.ntmps13
    go_wp2_with fail
    go_ret
    exact ⟨ret_bool HS.out, Drawn.refl w⟩
end Go.Proofs.Ytckpgbkabbddnaa

/- Same, of what a call owns and of what came in. -/
namespace Go.Proofs.Ytckpgbkabbddnaa
open Go.RowKit

theorem u8_byte {x : Int} (h : (Lit.int .u8 x).wf = true) : ∃ b : UInt8, x = (b.toNat : Int) := by
  simp [Lit.wf, IntKind.min, IntKind.max, IntKind.signed, IntKind.bits] at h
  refine ⟨UInt8.ofNat x.toNat, ?_⟩
  rw [UInt8.toNat_ofNat']
  omega
/-- Two slices of the call's own. -/
theorem same_oo (w : World) (b1 b2 : Nat) (v1 v2 : Value) (xs ys : List UInt8) (h1 : OwnB 5 w b1 v1 xs) (h2 : OwnB 5 w b2 v2 ys) :
    Calls Try.prog 19 #[v1, v2] w fun e w' => e = .returned (.bool (decide (xs = ys))) ∧ Drawn w w' := by
  obtain ⟨A, c, rfl, hr, hl, hc, _⟩ := h1.slice
  obtain ⟨B, d, rfl, hs, hl2, hd, _⟩ := h2.slice
  exact same_any A B c d xs ys w hr hs (Nat.le_trans hl hc) (Nat.le_trans hl2 hd)
/-- One of the call's own, one that came in. -/
theorem same_ov (w : World) (b1 : Nat) (v1 : Value) (xs : List UInt8) (B : Option Addr) (d : Nat) (ys : List UInt8) (h1 : OwnB 5 w b1 v1 xs) (hs : RV w B (bv ys)) (hy : ys.length ≤ maxLen) :
    Calls Try.prog 19 #[v1, .slice B ys.length d] w fun e w' => e = .returned (.bool (decide (xs = ys))) ∧ Drawn w w' := by
  obtain ⟨A, c, rfl, hr, hl, hc, _⟩ := h1.slice
  exact same_any A B c d xs ys w hr hs (Nat.le_trans hl hc) hy
/-- .. of a length that is known. -/
theorem same_at (w : World) (b1 : Nat) (v1 : Value) (xs : List UInt8) (B : Option Addr) (d n : Nat) (ys : List UInt8) (hn : ys.length = n) (h1 : OwnB 5 w b1 v1 xs) (hs : RV w B (bv ys)) (hy : n ≤ maxLen := by decide) :
    Calls Try.prog 19 #[v1, .slice B n d] w fun e w' => e = .returned (.bool (decide (xs = ys))) ∧ Drawn w w' := by
  subst hn
  exact same_ov w b1 v1 xs B d ys h1 hs hy
end Go.Proofs.Ytckpgbkabbddnaa
