/- works (layer 2): a page that the document tells. -/
import Derived.Test.YtdeapijcoeedbaaSealG
set_option linter.unusedVariables false
set_option linter.unusedSimpArgs false
namespace Go.Proofs.Ytdeapijcoeedbaa
open Go.RowKit

theorem putPage_lit (w : World) : Calls Try.prog 11 #[.int .i64 128, .int .u8 1, .slice none 0 0] w (PutPageEnd w (pageS 128 1 [], 0)) := by
  have h := putPage_any w 128 1 none 0 [] (RV.nil _ _) (by decide)
  have e : putPageS 128 1 [] = (pageS 128 1 [], 0) := by decide +kernel
  rw [e] at h
  exact h
theorem getPage_at (w : World) (A : Option Addr) (n c : Nat) (xs : List UInt8) (hn : xs.length = n) (hr : RV w A (bv xs)) (hlc : n ≤ c) (hc : c ≤ maxLen) :
    Calls Try.prog 17 #[.slice A n c] w (GetPageEnd w (getS xs)) := by
  subst hn
  exact getPage_any w A c xs hr hlc hc
theorem own_some {e : TypeId} {w : World} {base : Nat} {v : Value} {xs : List UInt8} (h : OwnB e w base v xs) (h0 : 0 < xs.length) :
    ∃ g full, v = .slice (some ⟨g, 0, none⟩) xs.length full.length ∧ base ≤ g ∧ RowB e w g full ∧ full.take xs.length = xs ∧ full.length ≤ maxLen := by
  rcases h with ⟨_, rfl⟩ | h
  · simp at h0
  · exact h
theorem taken_get {full xs : List UInt8} (h : full.take xs.length = xs) {j : Nat} {b : UInt8} (hj : xs[j]? = some b) : full[j]? = some b := by
  have hl := (List.getElem?_eq_some_iff.1 hj).1
  rw [← h, List.getElem?_take, if_pos hl] at hj
  exact hj

set_option maxRecDepth 100000 in
set_option maxHeartbeats 1000000 in
theorem works_any (w : World) : Calls Try.prog 16 #[] w fun e w' => e = .returned (.bool true) ∧ Below w.heap.size w w' := by
  have p0 : getS (pageS 128 1 []) = (1, [], 0) := by decide +kernel
  have p1 : (pageS 128 1 []).length = 128 := pageS_length (by decide) (by decide)
  have p2 : (pageS 128 1 [])[0]? = some 23 := by decide +kernel
  have p3 : (pageS 128 1 [])[1]? = some 0 := by decide +kernel
  have p4 : (pageS 128 1 [])[127]? = some 255 := by decide +kernel
  have p5 : getS ((pageS 128 1 []).set 127 127) = (0, [], 7) := by decide +kernel
  have HP := Lib.hid (And.intro p0 (And.intro p1 (And.intro p2 (And.intro p3 (And.intro p4 p5)))))
  clear p0 p1 p2 p3 p4 p5
  go_enter Try.func16, Try.ntmps16
  go_wp2_with fail
  refine (putPage_lit w).mono ?_
  rintro e w1 ⟨v1, rfl, ho1, hb1⟩
  generalize pageS 128 1 [] = P at HP ho1
  obtain ⟨g, full, rfl, hg, hrow, htk, hm⟩ := own_some ho1 (by rw [HP.out.2.1]; decide)
  have H1 := Lib.hid (And.intro ho1 (And.intro hb1 (And.intro hrow htk)))
  have hl : P.length = 128 := HP.out.2.1
  have hfl : 128 ≤ full.length := by rw [← hl]; exact OwnB.len (g := g) htk
  rw [hl]
  clear ho1 hb1 hrow htk hl
  generalize full.length = fl at hm hfl
  go_wp2_with fail
  refine (getPage_at w1 _ 128 fl P HP.out.2.1 ?_ hfl hm).mono ?_
  · have := H1.out.2.2.1.rv.take P.length
    rwa [← bv_take, H1.out.2.2.2] at this
  rintro e w2 ⟨v2, rfl, ho2, hb2⟩
  rw [HP.out.1] at ho2 ⊢
  obtain ⟨A2, c2, rfl, _, _, _, _⟩ := ho2.slice
  have hrow2 := H1.out.2.2.1.belowAll hb2
  have hc0 : w2.cell? ⟨g, 0, none⟩ = some (.int .u8 23) := hrow2.cell (taken_get H1.out.2.2.2 HP.out.2.2.1)
  have hc1 : w2.cell? ⟨g, 1, none⟩ = some (.int .u8 0) := hrow2.cell (taken_get H1.out.2.2.2 HP.out.2.2.2.1)
  have hc127 : w2.cell? ⟨g, 127, none⟩ = some (.int .u8 255) := hrow2.cell (taken_get H1.out.2.2.2 HP.out.2.2.2.2.1)
  have hfz := hrow2.frozen 127
  have hrow3 := hrow2.set' (n := 127) 127 (b := 127) rfl
  have hb3 : Below w.heap.size w (w2.setCell ⟨g, 127, none⟩ (.int .u8 127)) := (below_then H1.out.2.1 H1.out.2.1.size hb2).setCell (p := ⟨g, 127, none⟩) hg _
  have H2 := Lib.hid (And.intro hrow3 hb3)
  clear ho2 hb2 hrow2 hrow3 hb3
  go_wp2_with fail
  refine (getPage_at _ _ 128 fl (P.set 127 127) (by rw [List.length_set]; exact HP.out.2.1) ?_ hfl hm).mono ?_
  · have := H2.out.1.rv.take P.length
    rwa [← bv_take, List.take_set, H1.out.2.2.2] at this
  rintro e w3 ⟨v3, rfl, ho3, hb3⟩
  rw [HP.out.2.2.2.2.2] at ho3 ⊢
  obtain ⟨A3, c3, rfl, _, _, _, _⟩ := ho3.slice
  have H3 := Lib.hid hb3
  clear ho3 hb3
  go_wp2_with fail
  go_ret
  exact ⟨rfl, below_then H2.out.2 H2.out.2.size H3.out⟩
end Go.Proofs.Ytdeapijcoeedbaa
