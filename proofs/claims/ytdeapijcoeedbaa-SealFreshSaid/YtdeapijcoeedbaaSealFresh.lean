/- SealFresh: the walk. -/
import Derived.Test.YtdeapijcoeedbaaWorks02
import Derived.Test.YtdeapijcoeedbaaSealL
import Derived.Test.YtdeapijcoeedbaaSameK
import Derived.Test.YtdeapijcoeedbaaSealB
import Derived.Test.YtdeapijcoeedbaaWide
import Derived.Test.YtdeapijcoeedbaaSpoil
import Derived.Test.YtdeapijcoeedbaaLeft
set_option linter.unusedVariables false
set_option linter.unusedSimpArgs false
namespace Go.Proofs.Ytdeapijcoeedbaa
open Go.RowKit

theorem rv_wide {e : TypeId} {w : World} {g : Nat} {xs : List UInt8} (h : RowB e w g (xs ++ [7, 7, 7])) : RV w (some ⟨g, 0, none⟩) (bv xs) := by
  have := h.rv.take xs.length
  rwa [← bv_take, List.take_left] at this
theorem OwnB.rv {e : TypeId} {w : World} {base : Nat} {A : Option Addr} {n c : Nat} {xs : List UInt8} (h : OwnB e w base (.slice A n c) xs) : RV w A (bv xs) := by
  obtain ⟨A', c', he, hr, _⟩ := h.slice
  injection he with h1
  rw [h1]
  exact hr

set_option maxRecDepth 100000 in
set_option maxHeartbeats 1000000 in
theorem walkSealFresh (w : World) (s : Int) (ws : (Lit.int .i64 s).wf = true) (x1 : Int) (wk : (Lit.int .u8 x1).wf = true) (A : Option Addr) (c : Nat) (body : List UInt8) (hr : RV w A (bv body)) (hR : body.length ≤ 140737488351232) :
    Calls Try.prog 10 #[.int .i64 s, .int .u8 x1, .slice A body.length c] w fun e w' => e = .returned (.bool true) ∧ Below w.heap.size w w' := by
  obtain ⟨kind, rfl⟩ := u8_byte wk
  have HR := Lib.hid (And.intro hr (And.intro (show body.length ≤ 140737488355328 by omega) (show body.length ≤ maxLen by unfold maxLen; omega)))
  clear hr ws wk
  go_enter Try.func10, Try.ntmps10
  go_wp2_with fail
  refine (wide_any w A c body HR.out.1 HR.out.2.1).mono ?_
  rintro e w1 ⟨gv, rfl, hgv, hrow, hb1⟩
  have H1 := Lib.hid (And.intro hrow (And.intro hgv hb1))
  clear hrow hgv hb1
  go_wp2_with fail
  refine (putPage_any w1 s kind _ _ body (rv_wide H1.out.1) HR.out.2.2).mono ?_
  rintro e w2 ⟨v2, rfl, ho2, hb2⟩
  have H2 := Lib.hid (And.intro (H1.out.1.belowAll hb2) (below_then H1.out.2.2 H1.out.2.2.size hb2))
  go_wp2_with fail
  refine (left_yes w2 gv A c body H2.out.1 (HR.out.1.below H2.out.2) HR.out.2.1).mono ?_
  rintro e w3 ⟨rfl, hd3⟩
  have H3 := Lib.hid (H2.out.2.trans (hd3.below _))
  have hq3 := putPageS_code s kind body
  by_cases hq : (putPageS s kind body).2 = 0
  · obtain ⟨hs1, hs2, hk1, hk7, hbl5, hput⟩ := putPageS_ok hq
    have hp : isPage s.toNat := by unfold isPage; omega
    have hplen := pageS_length (kind := kind) hp hbl5
    rw [hput] at ho2 ⊢
    dsimp only at ho2 ⊢
    generalize pageS s.toNat kind body = P at ho2 hplen
    have hPl : P.length ≤ 256 := by omega
    obtain ⟨A2, c2, rfl, _, hlc, hcm, _⟩ := ho2.slice
    have H4 := Lib.hid (And.intro (ho2.drawn hd3) (And.intro (show P.length ≤ 140737488355328 by omega) (show P.length ≤ maxLen by unfold maxLen; omega)))
    have hn := noughts_le P
    clear ho2 hb2 hd3 hq hput hplen hlc hcm
    go_wp2_with fail
    refine (wide_any w3 A2 c2 P H4.out.1.rv H4.out.2.1).mono ?_
    rintro e w4 ⟨gw, rfl, hgw, hrow4, hb4⟩
    have H5 := Lib.hid (And.intro hrow4 (And.intro hgw (And.intro (below_then H3.out H3.out.size hb4) (H4.out.1.below hb4))))
    clear hrow4 hgw hb4
    go_wp2_with fail
    refine (getPage_any w4 _ _ P (rv_wide H5.out.1) (by omega) (by unfold maxLen; omega)).mono ?_
    rintro e w5 ⟨v5, rfl, ho5, hb5⟩
    have hc1 := getS_code P
    generalize hG : getS P = G at *
    have H6 := Lib.hid (And.intro ho5 (And.intro (H5.out.1.belowAll hb5) (And.intro (below_then H5.out.2.2.1 H5.out.2.2.1.size hb5) (H5.out.2.2.2.below hb5))))
    have Hgw := Lib.hid (show gw < w4.heap.size from H5.out.1.lt)
    have Hp4 := Lib.hid (show w3.heap.size ≤ w4.heap.size from Nat.le_trans H5.out.2.1 (Nat.le_of_lt Hgw.out))
    clear ho5 hb5 hG
    go_wp2_with fail
    refine (spoil_own w5 _ v5 _ 1 1 rfl H6.out.1).mono ?_
    rintro e w6 ⟨rfl, hg6⟩
    have hne : ∀ k, k < w4.heap.size → some k ≠ v5.ownBlock := fun k hk e => by
      have := (H6.out.1.blk e.symm).1
      omega
    have hrow6 := H6.out.2.1.grown hg6 (hne gw Hgw.out)
    have ho6 : OwnB 5 w6 w1.heap.size (.slice A2 P.length c2) P := H6.out.2.2.2.kept hg6 (by
      cases h4 : (Value.slice A2 P.length c2).ownBlock with
      | none => exact .inl rfl
      | some k => exact .inr (hne k (H5.out.2.2.2.blk h4).2))
    have hb6 : Below w.heap.size w w6 := H6.out.2.2.1.grown hg6 H6.out.2.2.1.size (fun k hk => Nat.le_trans (Nat.le_trans H3.out.size Hp4.out) (H6.out.1.blk hk).1)
    have H7 := Lib.hid (And.intro hrow6 (And.intro ho6 hb6))
    clear hrow6 ho6 hb6 hg6 hne
    go_wp2_with fail
    refine (less_any _ _ P A2 c2 P w6 (rv_wide H7.out.1) H7.out.2.1.rv H4.out.2.2 H4.out.2.2).mono ?_
    rintro e w7 ⟨rfl, rfl⟩
    go_wp2_with fail
    refine (noughts_any _ _ P w6 (rv_wide H7.out.1) H4.out.2.1).mono ?_
    rintro e w7 ⟨rfl, rfl⟩
    go_wp2_with fail
    refine (left_yes w6 gw A2 c2 P H7.out.1 H7.out.2.1.rv H4.out.2.1).mono ?_
    rintro e w8 ⟨rfl, hd8⟩
    have H8 := Lib.hid (H7.out.2.2.trans (hd8.below _))
    clear hd8
    go_wp2_with fail
    refine (works_any _).mono ?_
    rintro e w9 ⟨rfl, hb9⟩
    have H9 := Lib.hid hb9
    clear hb9
    go_wp2_with fail
    go_ret
    exact ⟨rfl, below_then H8.out H8.out.size H9.out⟩
  · generalize (putPageS s kind body).2 = n at *
    generalize (putPageS s kind body).1 = y at *
    have hne : ((n : Int) != 0) = true := by simp; exact hq
    clear ho2 hb2 hd3 hq
    go_wp2_with fail
    refine (works_any _).mono ?_
    rintro e w9 ⟨rfl, hb9⟩
    have H9 := Lib.hid hb9
    clear hb9
    go_wp2_with fail
    go_ret
    exact ⟨rfl, below_then H3.out H3.out.size H9.out⟩
end Go.Proofs.Ytdeapijcoeedbaa
