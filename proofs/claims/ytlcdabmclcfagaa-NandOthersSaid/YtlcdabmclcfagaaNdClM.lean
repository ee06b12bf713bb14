import Derived.Lib.SliceRun
import Derived.Laws.Cover3
import Derived.Test.YtlcdabmclcfagaaAppM
import Derived.Test.YtlcdabmclcfagaaMBase
set_option linter.unusedVariables false
set_option linter.unusedSimpArgs false
/- slices.Clone of bytes: contract. -/
namespace Go.Proofs.Ytlcdabmclcfagaa
open Go.RowKit

theorem own_lit0 (w : World) (e : TypeId) : OwnB e (w.alloc (.cells #[] e)) w.heap.size (.slice (some ⟨w.heap.size, 0, none⟩) 0 0) [] :=
  .inr ⟨w.heap.size, [], rfl, Nat.le_refl _, Blk.new w e #[], rfl, Nat.zero_le _⟩
set_option maxRecDepth 100000 in
set_option maxHeartbeats 400000 in
theorem clone_ok (w : World) (ad : Addr) (n c : Nat) (xs : List UInt8) (hn : xs.length = n) (hr : RV w (some ad) (bv xs)) (hx : n ≤ 140737488355328) :
    Calls Try.prog 40 #[.slice (some ad) n c] w fun e w' => ∃ v, e = .returned v ∧ OwnB 5 w' w.heap.size v xs ∧ Below w.heap.size w w' := by
  have hb := (Below.refl w.heap.size w).alloc (Nat.le_refl _) (.cells #[] 5)
  have HR := Lib.hid (And.intro hr (And.intro hn (And.intro (own_lit0 w 5) (And.intro hb (hr.below hb)))))
  clear hr hb
  go_enter Try.func40, Try.ntmps40
  go_wp2_with fail
  rw [Lib.run_eql_slice_nil w 22 5 _ _ _ _ _ Try.underlying22]
  simp only [Option.isNone_some]
  go_wp2_with (at_builtin; refine wpList_appB _ rfl _ _ 22 rfl w.heap.size 5 Try.underlying22 u8info (.slice (some ⟨w.heap.size, 0, none⟩) 0 0) [] rfl HR.out.2.2.1 (some ad) n c xs rfl HR.out.2.1 HR.out.2.2.2.2 ?_ ?_ ?_)
  · rw [HR.out.2.1]; simpa using hx
  · simp
  intro v w1 hown hg _
  have hb1 := HR.out.2.2.2.1.grown hg (by simp) (fun k e => by simp [Value.ownBlock] at e; omega)
  have HX := Lib.hid (And.intro (show OwnB 5 w1 w.heap.size v xs from hown) hb1)
  clear hown hg hb1
  go_wp2
  go_ret
  exact ⟨v, rfl, HX.out.1, HX.out.2⟩
end Go.Proofs.Ytlcdabmclcfagaa
