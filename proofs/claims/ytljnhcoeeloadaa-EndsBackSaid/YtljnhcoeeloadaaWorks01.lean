/- works (layer 1): numbers that the document tells. -/
import Derived.Test.YtljnhcoeeloadaaRow
import Derived.Test.YtljnhcoeeloadaaSame
import Derived.Lib.SlBytesConst
set_option linter.unusedVariables false
set_option linter.unusedSimpArgs false
namespace Go.Proofs.Ytljnhcoeeloadaa
open Go.RowKit

/-- A row of bytes that was laid as a literal. -/
theorem rv_lit (w : World) (e : TypeId) (l : List UInt8) (cs : Array Value) (fr : Nat × Nat) (h : cs = (bv l).toArray) : RV (w.alloc (.cells cs e fr)) (some ⟨w.heap.size, 0, none⟩) (bv l) := by
  subst h
  intro _
  refine ⟨_, rfl, fun j u hu => ?_⟩
  rw [add_lit0, cell_of_row (w.alloc (.cells (bv l).toArray e fr)) w.heap.size j (bv l).toArray e fr (heap_alloc_new w _)]
  simpa using hu
theorem isSz2 : IsSz ((2 : Nat) : Int) := .inr (.inl rfl)
theorem len5 : ([2, 1, 2, 97, 98] : List UInt8).length = 5 := rfl
theorem len2 (a b : UInt8) : ([a, b] : List UInt8).length = 2 := rfl

set_option maxHeartbeats 2000000 in
set_option maxRecDepth 100000 in
theorem works_any (w : World) : Calls Try.prog 18 #[] w fun e w' => e = .returned (.bool true) ∧ Below w.heap.size w w' := by
  have kc := fun (w : World) (C : Array Value) (n c : Nat) => Lib.run_convert_bytes_const (P := Try.prog) w 22 5 C n c Try.underlying22 Try.underlying5
  go_enter Try.func18, Try.ntmps18
  go_wp2_with fail
  refine (put_ok 258 2 w isSz2 (by decide) (by decide)).mono ?_
  rintro e w1 ⟨v1, rfl, hown1, hb1⟩
  have hd : digs 258 2 = [2, 1] := by decide
  rw [hd] at hown1
  obtain ⟨A1, c1, rfl, hr1, _, _, _⟩ := hown1.slice
  have H1 := Lib.hid (And.intro hr1 hb1)
  clear hown1 hb1 hr1 hd
  go_wp2_with fail
  refine (new_any _ _ 5 [2, 1, 2, 97, 98] (rv_lit _ _ _ _ _ rfl) (by decide)).mono ?_
  rintro e w2 ⟨g, h, rfl, hrd, hb2, hg, hgs, hh⟩
  have H2 := Lib.hid (And.intro hrd hb2)
  clear hrd hb2 hh
  go_wp2_with fail
  refine (take_ok (s := 2) H2.out.1 isSz2 (by decide)).mono ?_
  rintro e w3 ⟨rfl, hrd, hb3⟩
  have e3 : takeS (some [2, 1, 2, 97, 98]) 2 = (258, 0, some [2, 97, 98]) := by decide
  rw [e3] at hrd ⊢
  have H3 := Lib.hid (And.intro hrd hb3)
  clear hrd hb3 e3
  go_wp2_with fail
  refine (row_any H3.out.1).mono ?_
  rintro e w4 ⟨v4, rfl, hown4, hrd, hb4⟩
  have e4 : rowS (some [2, 97, 98]) = ([97, 98], 0, some []) := by decide
  rw [e4] at hown4 hrd ⊢
  obtain ⟨A4, c4, rfl, hr4, _, _, _⟩ := hown4.slice
  have H4 := Lib.hid (And.intro hrd (And.intro hb4 hown4))
  clear hrd hb4 hown4 hr4 e4
  go_wp2_with fail
  refine (take_any (s := 1) H4.out.1 isSz1).mono ?_
  rintro e w5 ⟨rfl, hrd, hb5⟩
  have e5 : takeS (some []) 1 = (0, 4, none) := by decide
  rw [e5] at hrd ⊢
  have H5 := Lib.hid (And.intro hrd hb5)
  clear hrd hb5 e5
  go_wp2_with fail
  have hw2 : w1.heap.size + 1 ≤ w2.heap.size := by have := H2.out.2.size; simpa using this
  have hg1 : w1.heap.size + 1 ≤ g := by simpa using hg
  have b2 : Below w1.heap.size w1 w2 := ((Below.refl _ _).alloc (Nat.le_refl _) _).trans (H2.out.2.mono (by simp))
  have b3 := below_grown b2 H3.out.2 (by omega) (by omega)
  have b4 := below_grown b3 H4.out.2.1 b3.size (by omega)
  have b5 := below_grown b4 H5.out.2 b4.size (by omega)
  have hr1 := (H1.out.1.below b5).alloc (.cells #[.int .u8 2, .int .u8 1] 5)
  have hown4 : OwnB 5 w5 w3.heap.size (.slice A4 2 c4) [97, 98] := H4.out.2.2.kept H5.out.2 (by
    cases h4 : (Value.slice A4 2 c4).ownBlock with
    | none => exact .inl rfl
    | some k =>
      refine .inr (fun e => ?_)
      have := (H4.out.2.2.blk h4).1
      have h3 := H3.out.2.size
      injection e with e
      omega)
  have H6 := Lib.hid (And.intro hr1 (And.intro hown4 b5))
  clear hr1 hown4 b2 b3 b4 b5
  refine (same_any A1 _ c1 2 [2, 1] [2, 1] _ H6.out.1 (rv_lit _ _ _ _ _ rfl) (by decide) (by decide)).mono ?_
  rintro e w6 ⟨rfl, hd6⟩
  have H7 := Lib.hid hd6
  clear hd6
  go_wp2_with fail
  have hs5 : w5.heap.size + 1 ≤ w6.heap.size := by have := (H7.out.below 0).size; simpa using this
  have b6 : Below w5.heap.size w5 w6 := ((Below.refl _ _).alloc (Nat.le_refl _) _).trans (H7.out.below _)
  have hown6 := H6.out.2.1.below b6
  obtain ⟨A, c, he, hr6, _, _, _⟩ := hown6.slice
  injection he with eA eN eC
  have H8 := Lib.hid (And.intro (hr6.alloc (.cells #[.int .u8 97, .int .u8 98] 5 (2, 3))) (And.intro eA b6))
  clear b6 hown6 hr6 eA eN eC
  refine (same_any A4 _ c4 2 [97, 98] [97, 98] _ (H8.out.2.1 ▸ H8.out.1) (rv_lit _ _ _ _ _ rfl) (by decide) (by decide)).mono ?_
  rintro e w7 ⟨rfl, hd7⟩
  have H9 := Lib.hid hd7
  have hs6 : w6.heap.size + 1 ≤ w7.heap.size := by have := (hd7.below 0).size; simpa using this
  have b7 : Below w1.heap.size w5 w7 := (((H8.out.2.2.alloc H8.out.2.2.size _).trans (hd7.below _)).mono (by have := H6.out.2.2.size; omega))
  have b7g : ∀ k, k < w5.heap.size → w7.heap[k]? = w5.heap[k]? := ((H8.out.2.2.alloc H8.out.2.2.size _).trans (hd7.below _)).block
  have hrd7 : Rd w7 g h none := H5.out.1.keep (fun k hk _ => b7g k hk)
  have H10 := Lib.hid (And.intro hrd7 (H6.out.2.2.trans b7))
  clear hd7 b7 b7g hrd7
  go_wp2_with (go_at_call 14; refine (left_any H10.out.1).mono ?_; rintro e w8 ⟨rfl, rfl⟩)
  go_ret
  exact ⟨rfl, below_then H1.out.2 H1.out.2.size H10.out.2⟩
end Go.Proofs.Ytljnhcoeeloadaa
