/- Layer 2: the document's Blank. -/
import Derived.Test.YtakjjfohjodepaaSealDN
set_option linter.unusedVariables false
set_option linter.unusedSimpArgs false
namespace Go.Proofs.Ytakjjfohjodepaa
open Go.RowKit

theorem zeros_none : ∀ n : Fin 256, zerosTo n.val 8 = 0 ↔ n.val = 255 := by decide +kernel
theorem noughts_zero (l : List UInt8) : noughts l = 0 ↔ blankS l := by
  induction l with
  | nil => exact Iff.intro (fun _ x hx => nomatch hx) (fun _ => rfl)
  | cons a l ih =>
    have hz : zeros a = 0 ↔ a = 255 :=
      Iff.trans (b := a.toNat = 255) (zeros_none ⟨a.toNat, a.toNat_lt⟩) (Iff.intro (fun h => UInt8.toNat.inj h) (fun h => by rw [h]; rfl))
    simp only [noughts]
    constructor
    · intro h x hx
      rcases List.mem_cons.1 hx with rfl | hx
      · exact hz.1 (by omega)
      · exact (ih.1 (by omega)) x hx
    · intro h
      have h1 := hz.2 (h a (by simp))
      have h2 := ih.2 (fun x hx => h x (by simp [hx]))
      omega
theorem dBlank_any (A : Option Addr) (c : Nat) (xs : List UInt8) (w : World) (hr : RV w A (bv xs)) (hx : xs.length ≤ 140737488355328) :
    Calls Try.prog 27 #[.slice A xs.length c] w fun e w' => e = .returned (.bool (decide (blankS xs))) ∧ w = w' := by
  have HR := Lib.hid hr
  have hd : decide (blankS xs) = ((noughts xs : Int) == 0) := by
    rw [Bool.eq_iff_iff, decide_eq_true_iff, ← noughts_zero]
    simp
  have HD := Lib.hid hd
  clear hr hd
  go_enter Try.func27, Try.ntmps27
  go_wp2_with (go_at_call 28; refine (dNoughts_any _ _ xs _ HR.out hx).mono ?_; rintro e w' ⟨rfl, rfl⟩; generalize noughts xs = n at HD)
  go_ret
  exact ⟨ret_bool HD.out.symm, rfl⟩

theorem dBlank_at (A : Option Addr) (n c : Nat) (xs : List UInt8) (w : World) (hn : xs.length = n) (hr : RV w A (bv xs)) (hx : n ≤ 140737488355328) :
    Calls Try.prog 27 #[.slice A n c] w fun e w' => e = .returned (.bool (decide (blankS xs))) ∧ w = w' := by
  subst hn
  exact dBlank_any A c xs w hr hx

end Go.Proofs.Ytakjjfohjodepaa
