import Derived.Test.YtckpgbkabbddnaaKeyMM
import Derived.Test.YtckpgbkabbddnaaMPlain
import Derived.Test.YtckpgbkabbddnaaMApp
import Derived.Test.YtckpgbkabbddnaaMTake
import Derived.Test.YtckpgbkabbddnaaMPut
import Derived.Test.YtckpgbkabbddnaaCell2M
set_option linter.unusedVariables false
set_option linter.unusedSimpArgs false
/- The next key: the program's contract. -/
namespace Go.Proofs.Ytckpgbkabbddnaa
open Go.RowKit

def GetKeyEnd (w : World) (g : Nat) (h : Option Nat) (r : Ky × Nat × Option (List UInt8)) (e : Ending) (w' : World) : Prop :=
  e = .returned (.tuple #[r.1.val, .int .i64 (r.2.1 : Int)]) ∧ Rd w' g h r.2.2 ∧ w.grownBy w' (some g)

theorem rd_set4 {w : World} {g : Nat} {h : Option Nat} {st : Option (List UInt8)} (r : Rd w g h st) {R : Nat} (hg : g ≠ R) (hh : ∀ k, h = some k → k ≠ R) (a b c d : Value) :
    Rd ((((w.setCell ⟨R, 0, none⟩ a).setCell ⟨R, 1, none⟩ b).setCell ⟨R, 2, none⟩ c).setCell ⟨R, 3, none⟩ d) g h st :=
  r.keep fun k _ e => by
    have hk : k ≠ R := by
      rcases e with rfl | e
      · exact hg
      · exact hh k e.symm
    rw [Below.heap_setCell _ _ _ _ hk, Below.heap_setCell _ _ _ _ hk, Below.heap_setCell _ _ _ _ hk, Below.heap_setCell _ _ _ _ hk]
theorem rd_far1 {w : World} {g : Nat} {h : Option Nat} {st : Option (List UInt8)} (r : Rd w g h st) {L i : Nat} (hg : g ≠ L) (hh : ∀ k, h = some k → k ≠ L) (u : Value) : Rd (w.setCell ⟨L, i, none⟩ u) g h st :=
  r.keep fun k _ e => Below.heap_setCell _ _ _ _ (by
    rcases e with rfl | e
    · exact hg
    · exact hh k e.symm)
theorem rd_alloc {w : World} {g : Nat} {h : Option Nat} {st : Option (List UInt8)} (r : Rd w g h st) (o : Obj) : Rd (w.alloc o) g h st := r.below ((Below.refl _ _).alloc (Nat.le_refl _) o)

set_option maxRecDepth 100000 in
set_option maxHeartbeats 1000000 in
theorem getKey_short {w : World} {g : Nat} {h : Option Nat} {st : Option (List UInt8)} (r : Rd w g h st) (hh : ∀ k, h = some k → k < w.heap.size) (hst : ∀ a b c r, st ≠ some (a :: b :: c :: r)) :
    Calls Try.prog 48 #[.pointer (some ⟨g, 0, none⟩)] w (GetKeyEnd w g h (getKeyS st)) := by
  rw [getKeyS_short hst]
  obtain ⟨he, hn, ht⟩ := short_take hst
  have hgw := r.lt
  have hr0 := r.below ((Below.refl _ _).alloc (Nat.le_refl _) (.cells #[.int .i64 0, .int .u8 0, .string ⟨#[]⟩, .int .i64 0] 39))
  have hz0 := Blk.new w 39 #[.int .i64 0, .int .u8 0, .string ⟨#[]⟩, .int .i64 0]
  have H0 := Lib.hid (And.intro hr0 hz0)
  clear hst r hr0 hz0
  generalize htt : takeS st 2 = t at *
  obtain ⟨n1, e1, st1⟩ := t
  dsimp only at he hn ht
  have HT := Lib.hid (And.intro htt ht)
  have he1 : ((e1 : Int) == 1) = false := beq_eq_false_iff_ne.2 (by omega)
  clear htt ht he
  go_enter Try.func48, Try.ntmps48
  go_wp2_with fail
  refine (take_any (s := 2) H0.out.1 (.inr (.inl rfl))).mono ?_
  rintro e w1 ⟨rfl, hr1, hg1⟩
  rw [HT.out.1] at hr1 ⊢
  dsimp only at hr1 ⊢
  have hz1 := H0.out.2.grown hg1 (fun e => by injection e with e; omega)
  have H1 := Lib.hid (And.intro hr1 (And.intro hz1 hg1))
  clear hr1 hz1 hg1
  go_wp2_with fail
  refine (take_any (s := 1) H1.out.1 (.inl rfl)).mono ?_
  rintro e w2 ⟨rfl, hr2, hg2⟩
  rw [HT.out.2] at hr2 ⊢
  dsimp only at hr2 ⊢
  have hz2 := H1.out.2.1.grown hg2 (fun e => by injection e with e; omega)
  have f0 := hz2.frozen 0
  have f1 := hz2.frozen 1
  have f2 := hz2.frozen 2
  have f3 := hz2.frozen 3
  have k0 := hz2.cell 0
  have k1 := hz2.cell 1
  have k2 := hz2.cell 2
  have k3 := hz2.cell 3
  simp at k0 k1 k2 k3
  have H2 := Lib.hid (And.intro hr2 (And.intro hz2 (And.intro hg2 hh)))
  have hlt2 : w.heap.size < w2.heap.size := hz2.lt
  clear hr2 hz2 hg2 hh
  go_wp2_with fail
  refine post_cell2 Try.results48 Try.underlying39 rfl _ rfl ((H2.out.2.1.set4 _ _ _ _).alloc _) (by kernel_rfl) ?_
  exact ⟨rfl, rd_alloc (rd_set4 H2.out.1 (by omega) (fun k hk => Nat.ne_of_lt (H2.out.2.2.2 k hk)) _ _ _ _) _, grown_alloc (grown_set4 (grown_trans (grown_from_alloc H1.out.2.2) H2.out.2.2.1) (Nat.le_refl _) _ _ _ _) _⟩
end Go.Proofs.Ytckpgbkabbddnaa
