import Derived.Test.YtegoeagmadhpgaaLeafRM
import Derived.Test.YtegoeagmadhpgaaFactEM
set_option linter.unusedVariables false
set_option linter.unusedSimpArgs false
/- Layer 15: children that are compared: contract. -/
namespace Go.Proofs.Ytegoeagmadhpgaa
open Go.RowKit

theorem chd_split {a b : Chd} (h : a ≠ b) {R : Type} (x y : R) : (if a.key.ino = b.key.ino then if (a.key.what.toNat : Int) = (b.key.what.toNat : Int) then if a.key.name.toList = b.key.name.toList then if a.key.chunk = b.key.chunk then if a.block = b.block then if a.page = b.page then x else y else y else y else y else y else y) = y := by
  by_cases e1 : a.key.ino = b.key.ino
  · by_cases e2 : (a.key.what.toNat : Int) = (b.key.what.toNat : Int)
    · by_cases e3 : a.key.name.toList = b.key.name.toList
      · by_cases e4 : a.key.chunk = b.key.chunk
        · by_cases e5 : a.block = b.block
          · by_cases e6 : a.page = b.page
            · exfalso
              apply h
              obtain ⟨⟨a1, a2, a3, a4⟩, a5, a6⟩ := a
              obtain ⟨⟨b1, b2, b3, b4⟩, b5, b6⟩ := b
              dsimp only at e1 e2 e3 e4 e5 e6
              have q1 : a2 = b2 := UInt8.toNat.inj (by omega)
              have q2 : a3 = b3 := ba_ext e3
              rw [e1, q1, q2, e4, e5, e6]
            · rw [if_pos e1, if_pos e2, if_pos e3, if_pos e4, if_pos e5, if_neg e6]
          · rw [if_pos e1, if_pos e2, if_pos e3, if_pos e4, if_neg e5]
        · rw [if_pos e1, if_pos e2, if_pos e3, if_neg e4]
      · rw [if_pos e1, if_pos e2, if_neg e3]
    · rw [if_pos e1, if_neg e2]
  · rw [if_neg e1]

set_option maxRecDepth 100000 in
set_option maxHeartbeats 2000000 in
theorem chds_eq (w : World) (A : Option Addr) (n d : Nat) (l : List Chd) (h : ChdsIn w A n l) (B : Option Addr) (e : Nat) (h' : ChdsIn w B n l) (hn : n * 56 ≤ 140737488351232) :
    Calls Try.prog 26 #[.slice A n d, .slice B n e] w fun e w' => e = .returned (.bool true) ∧ Drawn w w' := by
  have H := Lib.hid (And.intro h (And.intro h.1 h'))
  clear h h'
  go_enter Try.func26, Try.ntmps26
  go_wp2_with fail
  go_loopg [5] n (fun k i wr => ∃ j t : Nat, j + k = n ∧ i = .int .i64 j ∧ wr = w.drewN t)
  case atStart => exact ⟨0, 0, by omega, rfl, rfl⟩
  case round =>
    obtain ⟨j, t, hj, rfl, rfl⟩ := hrel
    have HX := Lib.hid hj
    clear hj
    by_cases hlt : j < n
    · obtain ⟨f, hf⟩ : ∃ f, l[j]? = some f := ⟨_, List.getElem?_eq_getElem (by have := H.out.2.1; omega)⟩
      obtain ⟨okf, ad, hA, hblk, x0, x1, x2, x3, x4, x5⟩ := ChdsIn.at_ H.out.1 hf
      obtain ⟨okf', ad', hA', hblk', y0, y1, y2, y3, y4, y5⟩ := ChdsIn.at_ H.out.2.2 hf
      subst hA hA'
      have hjn : (j : Int) < (n : Int) := by omega
      clear hf okf okf'
      obtain ⟨⟨fi, fa, fs, fc⟩, fb, fp⟩ := f
      dsimp only at x0 x1 x2 x3 x4 x5 y0 y1 y2 y3 y4 y5
      go_wp2_with fail
      go_quiet (fail)
      rw [World.drewN_drewN]
      generalize t + nq = tB
      clear nq
      go_wp2_with fail
      go_roundg (n - (j + 1))
      case measure => have := HX.out; omega
      case rel => exact ⟨j + 1, tB, by have := HX.out; omega, by go_num, rfl⟩
    · obtain rfl : j = n := by have := HX.out; omega
      have hge : ¬ (j : Int) < (j : Int) := by omega
      go_wp2_with fail
      go_ret
      exact ⟨rfl, Drawn.mk w t⟩
end Go.Proofs.Ytegoeagmadhpgaa
