/- SealSure: the walk. -/
import Derived.Test.YtdeapijcoeedbaaWorks02
import Derived.Test.YtdeapijcoeedbaaSealL
import Derived.Test.YtdeapijcoeedbaaSameK
import Derived.Test.YtdeapijcoeedbaaSealM
import Derived.Test.YtdeapijcoeedbaaCopy
import Derived.StillTailTactics
import Derived.IntWalk
set_option linter.unusedVariables false
set_option linter.unusedSimpArgs false
namespace Go.Proofs.Ytdeapijcoeedbaa
open Go.RowKit

theorem or_u8 (a b : UInt8) : bits .or .u8 (a.toNat : Int) (b.toNat : Int) = ((a ||| b).toNat : Int) := by
  rw [u8_or_nat _ _ a.toNat_lt b.toNat_lt, UInt8.toNat_or]
theorem blank_own (w : World) (base : Nat) (v : Value) (xs : List UInt8) (h : OwnB 5 w base v xs) :
    Calls Try.prog 22 #[v] w fun e w' => e = .returned (.bool (decide (blankS xs))) ∧ w = w' := by
  obtain ⟨A, c, rfl, hr, hl, hc, _⟩ := h.slice
  exact blank_any A c xs w hr (Nat.le_trans hl hc)
theorem getPage_own (w : World) (base : Nat) (v : Value) (xs : List UInt8) (h : OwnB 5 w base v xs) :
    Calls Try.prog 17 #[v] w (GetPageEnd w (getS xs)) := by
  obtain ⟨A, c, rfl, hr, hl, hc, _⟩ := h.slice
  exact getPage_any w A c xs hr hl hc
theorem less_oo (w : World) (b1 b2 : Nat) (v1 v2 : Value) (xs ys : List UInt8) (h1 : OwnB 5 w b1 v1 xs) (h2 : OwnB 5 w b2 v2 ys) :
    Calls Try.prog 24 #[v1, v2] w fun e w' => e = .returned (.bool (decide (lessS xs ys))) ∧ w = w' := by
  obtain ⟨A, c, rfl, hr, hl, hc, _⟩ := h1.slice
  obtain ⟨B, d, rfl, hs, hl2, hd, _⟩ := h2.slice
  exact less_any A c xs B d ys w hr hs (Nat.le_trans hl hc) (Nat.le_trans hl2 hd)
theorem copy_own (w : World) (base : Nat) (v : Value) (xs : List UInt8) (h : OwnB 5 w base v xs) (hx : xs.length ≤ 140737488355328) :
    Calls Try.prog 19 #[v] w (OwnEnd w xs) := by
  obtain ⟨A, c, rfl, hr, _⟩ := h.slice
  exact copy_any w A c xs hr hx

theorem drew_below {B : Nat} {w w' : World} (h : Below B w w') : Below B w w'.drew := ⟨h.os, h.tape, h.output, h.size, h.block⟩

set_option maxRecDepth 100000 in
set_option maxHeartbeats 2000000 in
theorem walkSealSure (w : World) (s : Int) (ws : (Lit.int .i64 s).wf = true) (x1 : Int) (wk : (Lit.int .u8 x1).wf = true) (A : Option Addr) (c : Nat) (body : List UInt8) (hr : RV w A (bv body)) (hR : body.length ≤ 140737488351232)
    (B : Option Addr) (d : Nat) (m : List UInt8) (hrm : RV w B (bv m)) (hRm : m.length ≤ 140737488351232) :
    Calls Try.prog 8 #[.int .i64 s, .int .u8 x1, .slice A body.length c, .slice B m.length d] w fun e w' => e = .returned (.bool true) ∧ Below w.heap.size w w' := by
  obtain ⟨kind, rfl⟩ := u8_byte wk
  have HR := Lib.hid (And.intro hr (And.intro hrm (show body.length ≤ maxLen by unfold maxLen; omega)))
  clear hr ws wk hrm hR
  go_enter Try.func8, Try.ntmps8
  go_wp2_with fail
  refine (putPage_any w s kind A c body HR.out.1 HR.out.2.2).mono ?_
  rintro e w1 ⟨v1, rfl, ho1, hb1⟩
  have hq3 := putPageS_code s kind body
  by_cases hq : (putPageS s kind body).2 = 0
  · by_cases hm0 : m.length = 0
    · rw [hq, hm0]
      have H1 := Lib.hid hb1
      clear ho1 hb1 hq
      go_wp2_with fail
      refine (works_any _).mono ?_
      rintro e w9 ⟨rfl, hb9⟩
      have H9 := Lib.hid hb9
      clear hb9
      go_wp2_with fail
      go_ret
      exact ⟨rfl, below_then H1.out H1.out.size H9.out⟩
    · obtain ⟨hs1, hs2, hk1, hk7, hbl5, hput⟩ := putPageS_ok hq
      have hp : isPage s.toNat := by unfold isPage; omega
      have hplen := pageS_length (kind := kind) hp hbl5
      have hget := getS_page hp hk1 hk7 hbl5
      have hsure := fun q => sure (q := q) hp hk1 hk7 hbl5
      rw [hput] at ho1 ⊢
      dsimp only at ho1 ⊢
      generalize pageS s.toNat kind body = P at ho1 hplen hget hsure
      have hPl : P.length ≤ 256 := by omega
      have hPl0 : 0 < P.length := by omega
      obtain ⟨A1, c1, rfl, _, _, _, _⟩ := ho1.slice
      have H1 := Lib.hid (And.intro ho1 (And.intro hb1 (And.intro hget hsure)))
      clear ho1 hb1 hq hput hget hsure hplen
      go_wp2_with fail
      refine (copy_own w1 _ _ P H1.out.1 (by omega)).mono ?_
      rintro e w2 ⟨v2, rfl, ho2, hb2⟩
      obtain ⟨g, full, rfl, hg, hrow, htk, hfm⟩ := own_some ho2 hPl0
      have hfl : P.length ≤ full.length := OwnB.len (g := g) htk
      have hZl : (maskS m P ++ full.drop P.length).length = full.length := by
        rw [List.length_append, maskS_length, List.length_drop]
        omega
      have hZg : ∀ j a b, P[j]? = some a → m[j % m.length]? = some b → (maskS m P ++ full.drop P.length)[j]? = some (a ||| b) := fun j a b ha hb => by
        rw [List.getElem?_append_left (by rw [maskS_length]; exact (List.getElem?_eq_some_iff.1 ha).1)]
        exact maskS_get ha hb
      have hZt : (maskS m P ++ full.drop P.length).take P.length = maskS m P := List.take_left' (maskS_length m P)
      have hQl := maskS_length m P
      have HU := Lib.hid (maskS_up m P)
      generalize maskS m P = Q at hZl hZg hZt hQl HU
      generalize Q ++ full.drop P.length = Z at hZl hZg hZt
      have hg0 : w.heap.size ≤ g := Nat.le_trans H1.out.2.1.size hg
      have H2 := Lib.hid (And.intro hrow (And.intro htk (And.intro hb2 (And.intro hZl (And.intro hZg (And.intro hZt hQl))))))
      clear hrow htk hb2 hZl hZg hZt ho2 hQl
      go_wp2_with fail
      go_loopg [12] P.length (fun k i wr => ∃ j : Nat, j + k = P.length ∧ i = .int .i64 j ∧ RowB 5 wr g (Z.take j ++ full.drop j) ∧ Below w1.heap.size w1 wr)
      case atStart => exact ⟨0, by omega, rfl, by simpa using H2.out.1, H2.out.2.2.1⟩
      case round =>
        obtain ⟨j, hj, rfl, hrw, hbw⟩ := hrel
        have HJ := Lib.hid (And.intro hj (And.intro hrw hbw))
        clear hj hrw hbw
        by_cases hlt : j < P.length
        · have hfz := HJ.out.2.1.frozen j
          have ePj : P[j]? = some P[j] := List.getElem?_eq_getElem hlt
          have hcell : wr.cell? ⟨g, j, none⟩ = some (.int .u8 (P[j].toNat : Int)) := HJ.out.2.1.cell (by rw [over_get H2.out.2.2.2.1 (by omega)]; exact taken_get H2.out.2.1 ePj)
          have hmod : j % m.length < m.length := Nat.mod_lt _ (by omega)
          obtain ⟨bd, rfl, hcelm⟩ := (HR.out.2.1.below (below_then H1.out.2.1 H1.out.2.1.size HJ.out.2.2)).at_ (k := j % m.length) (by rw [bv_length]; exact hmod)
          have ebm : (bv m)[j % m.length]'(by rw [bv_length]; exact hmod) = .int .u8 (m[j % m.length].toNat : Int) := by simp [bv]
          rw [ebm] at hcelm
          have emj : m[j % m.length]? = some m[j % m.length] := List.getElem?_eq_getElem hmod
          have hz := over_set H2.out.2.2.2.1 (H2.out.2.2.2.2.1 j _ _ ePj emj)
          have hor := or_u8 P[j] m[j % m.length]
          have t1 := P[j].toNat_lt
          have t2 := m[j % m.length].toNat_lt
          generalize P[j] = a at hcell hz hor t1
          generalize m[j % m.length] = b at hcelm hz hor t2
          have HZ := Lib.hid hz
          have hrem : Int.tmod (j : Int) (m.length : Int) = ((j % m.length : Nat) : Int) := by rw [Int.tmod_eq_emod_of_nonneg (by omega)]; simp
          have hmodI : ((j % m.length : Nat) : Int) < (m.length : Int) := by omega
          have hwrap : IntKind.i64.wrap ((j % m.length : Nat) : Int) = ((j % m.length : Nat) : Int) := IntWalk.i64_in _ (by omega)
          clear hz ePj emj ebm
          generalize j % m.length = q at *
          go_wp2_with fail
          go_still_tail 15, (by kernel_rfl)
          change wpList _ _ _ _ _ wr.drew
          have hfz2 : wr.drew.frozen? ⟨g, j, none⟩ = false := hfz
          go_wp2_with fail
          go_roundg (P.length - (j + 1))
          case measure => have := HJ.out.1; omega
          case rel => exact ⟨j + 1, by have := HJ.out.1; omega, by go_num, by rw [← HZ.out]; exact HJ.out.2.1.set' j (by rw [UInt8.toNat_or]), drew_below (HJ.out.2.2.setCell (p := ⟨g, j, none⟩) hg _)⟩
        · have hjx : j = P.length := by have := HJ.out.1; omega
          have ho : OwnB 5 wr w1.heap.size (.slice (some ⟨g, 0, none⟩) P.length full.length) Q := by
            have hrw := HJ.out.2.1
            rw [hjx, H2.out.2.2.2.2.2.1] at hrw
            refine .inr ⟨g, Q ++ full.drop P.length, ?_, hg, hrw, List.take_left, ?_⟩
            · rw [H2.out.2.2.2.2.2.2, List.length_append, H2.out.2.2.2.2.2.2, List.length_drop]
              congr 1
              omega
            · rw [List.length_append, H2.out.2.2.2.2.2.2, List.length_drop]
              omega
          have HF := Lib.hid (And.intro ho (And.intro (H1.out.1.below HJ.out.2.2) (And.intro (below_then H1.out.2.1 H1.out.2.1.size HJ.out.2.2) (show getS P = (kind.toNat, body, 0) from H1.out.2.2.1))))
          subst hjx
          clear ho
          go_wp2_with fail
          refine (getPage_own wr _ _ Q HF.out.1).mono ?_
          rintro e w4 ⟨v4, rfl, ho4, hb4⟩
          by_cases hne : Q = P
          · rw [hne, HF.out.2.2.2] at ho4 ⊢
            have HF1 := HF.out.1
            rw [hne] at HF1
            have H4 := Lib.hid (And.intro (HF1.below hb4) (And.intro (HF.out.2.1.below hb4) (below_then HF.out.2.2.1 HF.out.2.2.1.size hb4)))
            clear ho4 hb4 hne HF1
            go_wp2_with fail
            refine (same_oo w4 _ _ _ _ P P H4.out.2.1 H4.out.1).mono ?_
            rintro e w5 ⟨rfl, hd5⟩
            rw [decide_eq_true rfl]
            have H5 := Lib.hid (And.intro (H4.out.1.drawn hd5) (And.intro (H4.out.2.1.drawn hd5) (H4.out.2.2.trans (hd5.below _))))
            clear hd5
            go_wp2_with fail
            refine (less_oo w5 _ _ _ _ P P H5.out.1 H5.out.2.1).mono ?_
            rintro e w6 ⟨rfl, rfl⟩
            rw [show decide (lessS P P) = false from decide_eq_false fun h => h.2 rfl]
            go_wp2_with fail
            refine (works_any _).mono ?_
            rintro e w9 ⟨rfl, hb9⟩
            have H9 := Lib.hid hb9
            clear hb9
            go_wp2_with fail
            go_ret
            exact ⟨rfl, below_then H5.out.2.2 H5.out.2.2.size H9.out⟩
          · have hless : decide (lessS Q P) = true := decide_eq_true ⟨HU.out, hne⟩
            have hsame : decide (P = Q) = false := decide_eq_false fun h => hne h.symm
            have H4 := Lib.hid (And.intro (HF.out.1.below hb4) (And.intro (HF.out.2.1.below hb4) (And.intro (below_then HF.out.2.2.1 HF.out.2.2.1.size hb4) (And.intro hless hsame))))
            rcases H1.out.2.2.2 Q HU.out hne with ⟨hbl, hgq⟩ | ⟨hbl, hgq⟩
            all_goals
              rw [hgq] at ho4 ⊢
              obtain ⟨A4, c4, rfl, _, _, _, _⟩ := ho4.slice
              have HBL := Lib.hid hbl
              clear ho4 hb4 hless hsame hgq hbl hne
              go_wp2_with fail
              refine (same_oo w4 _ _ _ _ P Q H4.out.2.1 H4.out.1).mono ?_
              rintro e w5 ⟨rfl, hd5⟩
              rw [H4.out.2.2.2.2]
              have H5 := Lib.hid (And.intro (H4.out.1.drawn hd5) (And.intro (H4.out.2.1.drawn hd5) (H4.out.2.2.1.trans (hd5.below _))))
              clear hd5
              go_wp2_with fail
              refine (less_oo w5 _ _ _ _ Q P H5.out.1 H5.out.2.1).mono ?_
              rintro e w6 ⟨rfl, rfl⟩
              rw [H4.out.2.2.2.1]
              go_wp2_with (first
                | (go_at_call 22; refine (blank_own w5 _ _ Q H5.out.1).mono ?_; rintro e w' ⟨rfl, rfl⟩; rw [decide_eq_true HBL.out])
                | (go_at_call 16; refine (works_any _).mono ?_; rintro e w9 ⟨rfl, hb9⟩; have H9 := Lib.hid hb9; clear hb9))
              go_ret
              exact ⟨rfl, below_then H5.out.2.2 H5.out.2.2.size H9.out⟩
  · generalize (putPageS s kind body).2 = n at *
    generalize (putPageS s kind body).1 = y at *
    have hne : ((n : Int) != 0) = true := by simp; exact hq
    have H1 := Lib.hid hb1
    clear ho1 hb1 hq
    go_wp2_with fail
    refine (works_any _).mono ?_
    rintro e w9 ⟨rfl, hb9⟩
    have H9 := Lib.hid hb9
    clear hb9
    go_wp2_with fail
    go_ret
    exact ⟨rfl, below_then H1.out H1.out.size H9.out⟩
end Go.Proofs.Ytdeapijcoeedbaa
