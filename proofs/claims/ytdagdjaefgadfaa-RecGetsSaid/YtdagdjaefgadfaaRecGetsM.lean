import Derived.Test.YtdagdjaefgadfaaWorks11M
import Derived.Test.YtdagdjaefgadfaaDRecGM
import Derived.Test.YtdagdjaefgadfaaMSame
set_option linter.unusedVariables false
set_option linter.unusedSimpArgs false
/- RecGets: the walk. -/
namespace Go.Proofs.Ytdagdjaefgadfaa
open Go.RowKit

theorem getsGo_len : ∀ (k : Nat) (st : Option (List UInt8)), (getsGo k st).1.length ≤ k
  | 0, st => by simp [getsGo]
  | k + 1, st => by
    have ih := getsGo_len k (oneS st).2.2
    rw [getsGo]
    split
    · simp
    · split
      · simp
      · simp; omega
theorem getsGo_code : ∀ (k : Nat) (st : Option (List UInt8)), (getsGo k st).2.1 ≤ 5
  | 0, st => by simp [getsGo]
  | k + 1, st => by
    have ih := getsGo_code k (oneS st).2.2
    have h1 := oneS_code st getKeyS_code
    rw [getsGo]
    split
    · exact h1
    · split
      · exact ih
      · simp
theorem getRecS_bd (xs : List UInt8) : (getRecS xs).1.length ≤ 255 ∧ (getRecS xs).2 ≤ 5 := by
  unfold getRecS
  cases xs with
  | nil => simp
  | cons n r =>
    dsimp only
    have h1 := getsGo_len n.toNat (some r)
    have h2 := getsGo_code n.toNat (some r)
    have h3 := n.toNat_lt
    split
    · simp
    · split
      · exact ⟨by simp, h2⟩
      · split
        · simp
        · exact ⟨by dsimp only; omega, by simp⟩

set_option maxRecDepth 100000 in
set_option maxHeartbeats 1000000 in
theorem walkRecGets (w : World) (A : Option Addr) (d : Nat) (xs : List UInt8) (hr : RV w A (bv xs)) (hR : xs.length ≤ 140737488351232) :
    Calls Try.prog 3 #[.slice A xs.length d] w fun e w' => e = .returned (.bool true) ∧ Below w.heap.size w w' := by
  obtain ⟨n, hn⟩ : ∃ n, xs.length = n := ⟨_, rfl⟩
  rw [hn] at hR ⊢
  have H := Lib.hid hr
  have HG := Lib.hid (fun w h => recGet_n w A n d xs hn h (by omega))
  have HD := Lib.hid (fun w h => dRecGet_any w A n d xs hn h (by omega))
  obtain ⟨h1, h2⟩ := getRecS_bd xs
  clear hr hn
  generalize getRecS xs = r at *
  obtain ⟨cs, e⟩ := r
  dsimp only at HG HD h1 h2
  obtain ⟨m, hm⟩ : ∃ m, cs.length = m := ⟨_, rfl⟩
  rw [hm] at h1
  have HM := Lib.hid hm
  clear hm
  go_enter Try.func3, Try.ntmps3
  go_wp2_with fail
  refine (HG.out w H.out).mono ?_
  rintro e1 w1 ⟨v1, rfl, ho1, hb1⟩
  dsimp only at ho1 ⊢
  rw [HM.out] at ho1
  obtain ⟨A1, c1, rfl, hin1, _, _, _⟩ := OwnL.listIn chg_len ho1
  have H1 := Lib.hid (And.intro hin1 (And.intro (H.out.below hb1) hb1))
  clear ho1 hb1 hin1
  go_wp2_with fail
  refine (HD.out w1 H1.out.2.1).mono ?_
  rintro e2 w2 ⟨v2, rfl, ho2, hb2⟩
  dsimp only at ho2 ⊢
  rw [HM.out] at ho2
  obtain ⟨A2, c2, rfl, hin2, _, _, _⟩ := OwnL.listIn chg_len ho2
  have H2 := Lib.hid (And.intro (ListIn.below chg_len (by decide) H1.out.1 hb2) (And.intro hin2 (below_then H1.out.2.2 H1.out.2.2.size hb2)))
  clear ho2 hb2 hin2
  go_wp2_with fail
  refine (dChgs_eq w2 A1 m c1 cs H2.out.1 A2 c2 H2.out.2.1 (by omega)).mono ?_
  rintro e3 w3 ⟨rfl, hd3⟩
  have H3 := Lib.hid (below_then H2.out.2.2 H2.out.2.2.size (hd3.below _))
  clear hd3
  go_wp2_with (go_at_call 12; refine (works11_any _).mono ?_; rintro e6 w6 ⟨rfl, hb6⟩; have H6 := Lib.hid (below_then H3.out H3.out.size hb6); clear hb6)
  go_ret
  exact ⟨rfl, H6.out⟩
end Go.Proofs.Ytdagdjaefgadfaa
