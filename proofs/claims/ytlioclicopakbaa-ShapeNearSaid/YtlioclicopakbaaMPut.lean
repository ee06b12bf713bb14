import Derived.Test.YtlioclicopakbaaEndsM
import Derived.Test.YtlioclicopakbaaMApp
import Derived.Test.YtlioclicopakbaaMBase
set_option linter.unusedVariables false
set_option linter.unusedSimpArgs false
/- One byte laid as a literal; what Put and Row answer. -/
namespace Go.Proofs.Ytlioclicopakbaa
open Go.RowKit

theorem alloc_size (w : World) (o : Obj) : (w.alloc o).heap.size = w.heap.size + 1 := by simp

def PutEnd (w : World) (xs : List UInt8) (e : Ending) (w' : World) : Prop :=
  ∃ v, e = .returned (.tuple #[v, .int .i64 0]) ∧ OwnB 5 w' w.heap.size v xs ∧ Below w.heap.size w w'

/-- One byte that was laid as a literal. -/
theorem own_lit1 (w : World) (e : TypeId) (n : Nat) (hn : n < 256) : OwnB e (w.alloc (.cells #[.int .u8 (n : Int)] e)) w.heap.size (.slice (some ⟨w.heap.size, 0, none⟩) 1 1) [UInt8.ofNat n] := by
  have h := RowB.new w e [UInt8.ofNat n]
  have e1 : (bv [UInt8.ofNat n]).toArray = #[.int .u8 (n : Int)] := by
    simp [bv]
    omega
  rw [e1] at h
  exact OwnB.whole (Nat.le_refl _) h (by simp [maxLen])

end Go.Proofs.Ytlioclicopakbaa

/- Contract of Row. -/
namespace Go.Proofs.Ytlioclicopakbaa
open Go.RowKit

/-! ### Row, Put where they refuse -/
theorem putRow_no (w : World) (A : Option Addr) (c : Nat) (xs : List UInt8) (hx : 255 < xs.length) (hm : xs.length ≤ maxLen) :
    Calls Try.prog 50 #[.slice A xs.length c] w fun e w' => e = .returned (.tuple #[.slice none 0 0, .int .i64 3]) ∧ w = w' := by
  unfold maxLen at hm
  go_enter Try.func50, Try.ntmps50
  go_wp2
  go_ret2
  exact ⟨rfl, rfl⟩

set_option maxHeartbeats 400000 in
theorem putRow_ok (w : World) (A : Option Addr) (c : Nat) (xs : List UInt8) (hr : RV w A (bv xs)) (hx : xs.length ≤ 255) :
    Calls Try.prog 50 #[.slice A xs.length c] w (PutEnd w (UInt8.ofNat xs.length :: xs)) := by
  have HR := Lib.hid hr
  clear hr
  go_enter Try.func50, Try.ntmps50
  go_wp2_with (at_builtin; refine wpList_appB _ rfl _ _ 37 rfl w.heap.size 5 Try.underlying37 u8info (.slice (some ⟨w.heap.size, 0, none⟩) 1 1) [UInt8.ofNat xs.length] rfl (own_lit1 w _ _ (by omega)) A xs.length c xs rfl rfl (HR.out.alloc _) ?_ ?_ ?_)
  · simp
    omega
  · simp
  · intro v w3 hown hg3 _
    have HX := Lib.hid (And.intro hown hg3)
    clear hown hg3
    go_wp2
    go_ret2
    obtain ⟨hown, hg3⟩ := HX.out
    refine ⟨v, rfl, hown, ?_⟩
    have h1 : w.grownBy (w.alloc (.cells #[.int .u8 (xs.length : Int)] 5)) (some w.heap.size) := World.grownBy_alloc _ _ _
    exact grown_new (grown_trans h1 hg3) (Nat.le_refl _)
end Go.Proofs.Ytlioclicopakbaa
