import Derived.Test.YtlcdabmclcfagaaSameM
set_option linter.unusedVariables false
set_option linter.unusedSimpArgs false
/- Same, of what a call owns and of what came in. -/
namespace Go.Proofs.Ytlcdabmclcfagaa
open Go.RowKit

theorem u8_byte {x : Int} (h : (Lit.int .u8 x).wf = true) : ∃ b : UInt8, x = (b.toNat : Int) := by
  simp [Lit.wf, IntKind.min, IntKind.max, IntKind.signed, IntKind.bits] at h
  refine ⟨UInt8.ofNat x.toNat, ?_⟩
  rw [UInt8.toNat_ofNat']
  omega
/-- Two slices of the call's own. -/
theorem same_oo (w : World) (b1 b2 : Nat) (v1 v2 : Value) (xs ys : List UInt8) (h1 : OwnB 5 w b1 v1 xs) (h2 : OwnB 5 w b2 v2 ys) :
    Calls Try.prog 14 #[v1, v2] w fun e w' => e = .returned (.bool (decide (xs = ys))) ∧ Drawn w w' := by
  obtain ⟨A, c, rfl, hr, hl, hc, _⟩ := h1.slice
  obtain ⟨B, d, rfl, hs, hl2, hd, _⟩ := h2.slice
  exact same_any A B c d xs ys w hr hs (Nat.le_trans hl hc) (Nat.le_trans hl2 hd)
/-- One of the call's own, one that came in. -/
theorem same_ov (w : World) (b1 : Nat) (v1 : Value) (xs : List UInt8) (B : Option Addr) (d : Nat) (ys : List UInt8) (h1 : OwnB 5 w b1 v1 xs) (hs : RV w B (bv ys)) (hy : ys.length ≤ maxLen) :
    Calls Try.prog 14 #[v1, .slice B ys.length d] w fun e w' => e = .returned (.bool (decide (xs = ys))) ∧ Drawn w w' := by
  obtain ⟨A, c, rfl, hr, hl, hc, _⟩ := h1.slice
  exact same_any A B c d xs ys w hr hs (Nat.le_trans hl hc) hy
/-- .. of a length that is known. -/
theorem same_at (w : World) (b1 : Nat) (v1 : Value) (xs : List UInt8) (B : Option Addr) (d n : Nat) (ys : List UInt8) (hn : ys.length = n) (h1 : OwnB 5 w b1 v1 xs) (hs : RV w B (bv ys)) (hy : n ≤ maxLen := by decide) :
    Calls Try.prog 14 #[v1, .slice B n d] w fun e w' => e = .returned (.bool (decide (xs = ys))) ∧ Drawn w w' := by
  subst hn
  exact same_ov w b1 v1 xs B d ys h1 hs hy
end Go.Proofs.Ytlcdabmclcfagaa
