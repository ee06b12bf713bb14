/- SealBack: the walk. -/
import Derived.Test.YtdeapijcoeedbaaWorks02
import Derived.Test.YtdeapijcoeedbaaSealB
import Derived.Test.YtdeapijcoeedbaaSameK
set_option linter.unusedVariables false
set_option linter.unusedSimpArgs false
namespace Go.Proofs.Ytdeapijcoeedbaa
open Go.RowKit

theorem getPage_own (w : World) (base : Nat) (v : Value) (xs : List UInt8) (h : OwnB 5 w base v xs) :
    Calls Try.prog 17 #[v] w (GetPageEnd w (getS xs)) := by
  obtain ⟨A, c, rfl, hr, hl, hc, _⟩ := h.slice
  exact getPage_any w A c xs hr hl hc
/-- What Put is asked for with a kind that Get answered. -/
theorem putPage_num (w : World) (s : Int) (k : Nat) (hk : k ≤ 7) (v : Value) (base : Nat) (body : List UInt8) (h : OwnB 5 w base v body) :
    Calls Try.prog 11 #[.int .i64 s, .int .u8 (k : Int), v] w (PutPageEnd w (putPageS s (UInt8.ofNat k) body)) := by
  obtain ⟨A, c, rfl, hr, hl, hc, _⟩ := h.slice
  have := putPage_any w s (UInt8.ofNat k) A c body hr (Nat.le_trans hl hc)
  have e : (UInt8.ofNat k).toNat = k := by rw [UInt8.toNat_ofNat']; omega
  rwa [e] at this

set_option maxRecDepth 100000 in
set_option maxHeartbeats 1000000 in
theorem walkSealBack (w : World) (s : Int) (ws : (Lit.int .i64 s).wf = true) (x1 : Int) (wk : (Lit.int .u8 x1).wf = true) (A : Option Addr) (c : Nat) (body : List UInt8) (hr : RV w A (bv body)) (hl : body.length ≤ c) (hm : c ≤ maxLen)
    (B : Option Addr) (d : Nat) (b : List UInt8) (hrb : RV w B (bv b)) (hlb : b.length ≤ d) (hmb : d ≤ maxLen) :
    Calls Try.prog 5 #[.int .i64 s, .int .u8 x1, .slice A body.length c, .slice B b.length d] w fun e w' => e = .returned (.bool true) ∧ Below w.heap.size w w' := by
  obtain ⟨kind, rfl⟩ := u8_byte wk
  have HR := Lib.hid (And.intro hr (And.intro hrb (And.intro (Nat.le_trans hl hm) (And.intro hlb hmb))))
  have hbl : b.length ≤ 9223372036854775807 := by have := Nat.le_trans hlb hmb; unfold maxLen at this; omega
  have hbodyl : body.length ≤ 9223372036854775807 := by have := Nat.le_trans hl hm; unfold maxLen at this; omega
  clear hr hrb hl hm hlb hmb ws wk
  go_enter Try.func5, Try.ntmps5
  go_wp2_with fail
  refine (putPage_any w s kind A c body HR.out.1 HR.out.2.2.1).mono ?_
  rintro e w1 ⟨v1, rfl, ho1, hb1⟩
  have hq3 := putPageS_code s kind body
  have hkk := kind.toNat_lt
  by_cases hq : (putPageS s kind body).2 = 0
  · obtain ⟨hs1, hs2, hk1, hk7, hbl5, hput⟩ := putPageS_ok hq
    have hp : isPage s.toNat := by unfold isPage; omega
    have hget := getS_page (kind := kind) hp hk1 hk7 hbl5
    have hplen := pageS_length (kind := kind) hp hbl5
    rw [hput] at ho1 ⊢
    dsimp only at ho1 ⊢
    generalize pageS s.toNat kind body = P at ho1 hget hplen
    have hbd : bodyS s = s.toNat - 5 := by unfold bodyS; rw [if_pos ⟨hs1, hs2⟩]
    obtain ⟨A1, c1, rfl, _, _, _, _⟩ := ho1.slice
    rw [hplen] at ho1 ⊢
    have H1 := Lib.hid (And.intro ho1 (And.intro hb1 (And.intro hget (And.intro hplen hbd))))
    have hsn : ((s.toNat : Nat) : Int) = s := Int.toNat_of_nonneg (by omega)
    generalize hS : s.toNat = S at *
    subst hsn
    clear ho1 hb1 hq hput hget hplen hbd hS
    go_wp2_with fail
    refine (getPage_own w1 _ _ P H1.out.1).mono ?_
    rintro e w2 ⟨v2, rfl, ho2, hb2⟩
    rw [H1.out.2.2.1] at ho2 ⊢
    have H2 := Lib.hid (And.intro (show OwnB 5 w2 w1.heap.size v2 body from ho2) (below_then H1.out.2.1 H1.out.2.1.size hb2))
    clear ho2 hb2
    generalize kind.toNat = kn at *
    go_wp2_with (first
      | (go_at_call 13; refine (same_ov w2 _ _ body A c body H2.out.1 (HR.out.1.below H2.out.2) HR.out.2.2.1).mono ?_; rintro e w3 ⟨rfl, hd3⟩; rw [decide_eq_true rfl]; have H3 := Lib.hid hd3; clear hd3)
      | (go_at_call 14; refine (body_any _ _).mono ?_; rintro e w' ⟨rfl, rfl⟩; rw [H1.out.2.2.2.2]))
    have HB := Lib.hid (H2.out.2.trans (H3.out.below _))
    have HW := Lib.hid HB.out.size
    refine (getPage_any _ B d b (HR.out.2.1.below HB.out) HR.out.2.2.2.1 HR.out.2.2.2.2).mono ?_
    rintro e w4 ⟨v4, rfl, ho4, hb4⟩
    by_cases hz : (getS b).2.2 = 0
    · obtain ⟨hp, k1, k7, hxl, hpg⟩ := getS_ok rfl hz
      have hput := putPageS_mk (kind := UInt8.ofNat (getS b).1) (body := (getS b).2.1) hp (by rw [UInt8.toNat_ofNat']; omega) (by rw [UInt8.toNat_ofNat']; omega) hxl
      rw [hpg] at hput
      rw [hz]
      generalize (getS b).1 = k at *
      generalize (getS b).2.1 = x at *
      have H4 := Lib.hid (And.intro ho4 (And.intro (below_then HB.out HW.out hb4) hput))
      clear ho4 hb4 hput hpg hz hxl hp
      go_wp2_with fail
      refine (putPage_num w4 _ k k7 v4 _ x H4.out.1).mono ?_
      rintro e w5 ⟨v5, rfl, ho5, hb5⟩
      rw [H4.out.2.2] at ho5 ⊢
      have H5 := Lib.hid (And.intro (show OwnB 5 w5 w4.heap.size v5 b from ho5) (below_then H4.out.2.1 H4.out.2.1.size hb5))
      clear ho5 hb5
      go_wp2_with fail
      refine (same_ov w5 _ _ b B d b H5.out.1 (HR.out.2.1.below H5.out.2) (Nat.le_trans HR.out.2.2.2.1 HR.out.2.2.2.2)).mono ?_
      rintro e w6 ⟨rfl, hd6⟩
      rw [decide_eq_true rfl]
      have H6 := Lib.hid (H5.out.2.trans (hd6.below _))
      clear hd6
      go_wp2_with fail
      refine (works_any _).mono ?_
      rintro e w7 ⟨rfl, hb7⟩
      have H7 := Lib.hid hb7
      clear hb7
      go_wp2_with fail
      go_ret
      exact ⟨rfl, below_then H6.out H6.out.size H7.out⟩
    · have hno := getS_no rfl hz
      rw [hno.2] at ho4
      rw [hno.1]
      have hcode := (getS_code b).1
      generalize (getS b).2.2 = n at *
      have hne : ((n : Int) != 0) = true := by simp; exact hz
      obtain ⟨A4, c4, rfl, _, _, _, _⟩ := ho4.slice
      have H4 := Lib.hid (below_then HB.out HW.out hb4)
      clear ho4 hb4 hno hz
      go_wp2_with fail
      refine (works_any _).mono ?_
      rintro e w7 ⟨rfl, hb7⟩
      have H7 := Lib.hid hb7
      clear hb7
      go_wp2_with fail
      go_ret
      exact ⟨rfl, below_then H4.out H4.out.size H7.out⟩
  · generalize (putPageS s kind body).2 = n at *
    generalize (putPageS s kind body).1 = y at *
    have hne : ((n : Int) == 0) = false := by simp; exact hq
    have HB := Lib.hid hb1
    clear ho1 hb1 hq
    go_wp2_with fail
    have HW := Lib.hid HB.out.size
    refine (getPage_any _ B d b (HR.out.2.1.below HB.out) HR.out.2.2.2.1 HR.out.2.2.2.2).mono ?_
    rintro e w4 ⟨v4, rfl, ho4, hb4⟩
    by_cases hz : (getS b).2.2 = 0
    · obtain ⟨hp, k1, k7, hxl, hpg⟩ := getS_ok rfl hz
      have hput := putPageS_mk (kind := UInt8.ofNat (getS b).1) (body := (getS b).2.1) hp (by rw [UInt8.toNat_ofNat']; omega) (by rw [UInt8.toNat_ofNat']; omega) hxl
      rw [hpg] at hput
      rw [hz]
      generalize (getS b).1 = k at *
      generalize (getS b).2.1 = x at *
      have H4 := Lib.hid (And.intro ho4 (And.intro (below_then HB.out HW.out hb4) hput))
      clear ho4 hb4 hput hpg hz hxl hp
      go_wp2_with fail
      refine (putPage_num w4 _ k k7 v4 _ x H4.out.1).mono ?_
      rintro e w5 ⟨v5, rfl, ho5, hb5⟩
      rw [H4.out.2.2] at ho5 ⊢
      have H5 := Lib.hid (And.intro (show OwnB 5 w5 w4.heap.size v5 b from ho5) (below_then H4.out.2.1 H4.out.2.1.size hb5))
      clear ho5 hb5
      go_wp2_with fail
      refine (same_ov w5 _ _ b B d b H5.out.1 (HR.out.2.1.below H5.out.2) (Nat.le_trans HR.out.2.2.2.1 HR.out.2.2.2.2)).mono ?_
      rintro e w6 ⟨rfl, hd6⟩
      rw [decide_eq_true rfl]
      have H6 := Lib.hid (H5.out.2.trans (hd6.below _))
      clear hd6
      go_wp2_with fail
      refine (works_any _).mono ?_
      rintro e w7 ⟨rfl, hb7⟩
      have H7 := Lib.hid hb7
      clear hb7
      go_wp2_with fail
      go_ret
      exact ⟨rfl, below_then H6.out H6.out.size H7.out⟩
    · have hno := getS_no rfl hz
      rw [hno.2] at ho4
      rw [hno.1]
      have hcode := (getS_code b).1
      generalize (getS b).2.2 = n at *
      have hne : ((n : Int) != 0) = true := by simp; exact hz
      obtain ⟨A4, c4, rfl, _, _, _, _⟩ := ho4.slice
      have H4 := Lib.hid (below_then HB.out HW.out hb4)
      clear ho4 hb4 hno hz
      go_wp2_with fail
      refine (works_any _).mono ?_
      rintro e w7 ⟨rfl, hb7⟩
      have H7 := Lib.hid hb7
      clear hb7
      go_wp2_with fail
      go_ret
      exact ⟨rfl, below_then H4.out H4.out.size H7.out⟩
end Go.Proofs.Ytdeapijcoeedbaa
