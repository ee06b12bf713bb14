/- Bytes that become others, the room behind them, too. -/
import Derived.Test.YtlcdabmclcfagaaByte
import Derived.Test.YtlcdabmclcfagaaFrame
set_option linter.unusedVariables false
set_option linter.unusedSimpArgs false
namespace Go.Proofs.Ytlcdabmclcfagaa
open Go.RowKit

theorem map_set_take {f : UInt8 → UInt8} {full : List UInt8} {j : Nat} {b : UInt8} (hb : full[j]? = some b) : (((full.take j).map f ++ full.drop j).set j (f b)) = (full.take (j + 1)).map f ++ full.drop (j + 1) := by
  have hj : j < full.length := (List.getElem?_eq_some_iff.1 hb).1
  have hbe : full[j] = b := by
    rw [List.getElem?_eq_getElem hj] at hb
    exact Option.some.inj hb
  rw [List.set_append_right _ _ (by simp; omega), List.drop_eq_getElem_cons hj, hbe, List.take_add_one, hb]
  have e : j - ((full.take j).map f).length = 0 := by rw [List.length_map, List.length_take]; omega
  rw [e]
  simp
theorem map_get_at {f : UInt8 → UInt8} {full : List UInt8} {j : Nat} (hj : j < full.length) : ((full.take j).map f ++ full.drop j)[j]? = some full[j] := by
  rw [List.getElem?_append_right (by simp; omega)]
  have e : j - ((full.take j).map f).length = 0 := by rw [List.length_map, List.length_take]; omega
  rw [e, List.drop_eq_getElem_cons hj]
  rfl

def SpoilRow (w : World) (g : Nat) (full : List UInt8) (e : Ending) (w' : World) : Prop :=
  e = .returned (.tuple #[]) ∧ RowB 5 w' g full ∧ w.grownBy w' (some g)

set_option maxHeartbeats 1000000 in
theorem spoil_row (w : World) (g n : Nat) (full : List UInt8) (b : UInt8) (hr : RowB 5 w g full) (hm : full.length ≤ maxLen) (hn : n ≤ full.length) :
    Calls Try.prog 28 #[.slice (some ⟨g, 0, none⟩) n full.length, .int .u8 (b.toNat : Int)] w (SpoilRow w g (full.map (· + b))) := by
  unfold maxLen at hm
  have HR := Lib.hid hr
  clear hr
  have hb256 := b.toNat_lt
  go_enter Try.func28, Try.ntmps28
  go_wp2_with fail
  go_loopg [5] full.length (fun k i wr => ∃ j : Nat, j + k = full.length ∧ i = .int .i64 j ∧ RowB 5 wr g ((full.take j).map (· + b) ++ full.drop j) ∧ w.grownBy wr (some g))
  case atStart => exact ⟨0, by omega, rfl, by simpa using HR.out, World.grownBy.refl _ _⟩
  case round =>
    obtain ⟨j, hj, rfl, hrow, hg⟩ := hrel
    have hf := hrow.frozen j
    have HX := Lib.hid (show j + gk = full.length ∧ RowB 5 wr g ((full.take j).map (· + b) ++ full.drop j) ∧ w.grownBy wr (some g) from ⟨hj, hrow, hg⟩)
    by_cases hlt : j < full.length
    · have hcur := hrow.cell (map_get_at (f := (· + b)) hlt)
      have hst := map_set_take (f := (· + b)) (List.getElem?_eq_getElem hlt)
      have hadd : ((full[j].toNat : Int) + b.toNat) % 256 = ((full[j] + b).toNat : Int) := by
        rw [UInt8.toNat_add]
        omega
      have hx := full[j].toNat_lt
      generalize full[j] = x at hcur hst hadd hx
      have HY := Lib.hid (And.intro hst hadd)
      clear hj hrow hg hst hadd
      go_wp2_with fail
      obtain ⟨hj, hrow, hg⟩ := HX.out
      go_roundg (full.length - (j + 1))
      case measure => omega
      case rel => exact ⟨j + 1, by omega, by go_num, by rw [← HY.out.1]; exact hrow.set' j HY.out.2, grown_trans hg (grown_setCell _ _ _ _)⟩
    · obtain rfl : j = full.length := by omega
      clear hj hrow hg
      go_wp2_with fail
      go_end0
      obtain ⟨hj, hrow, hg⟩ := HX.out
      rw [List.take_length, List.drop_length, List.append_nil] at hrow
      exact ⟨rfl, hrow, hg⟩

theorem spoil_nil (w : World) (b : UInt8) :
    Calls Try.prog 28 #[.slice none 0 0, .int .u8 (b.toNat : Int)] w fun e w' => e = .returned (.tuple #[]) ∧ w = w' := by
  go_enter Try.func28, Try.ntmps28
  go_wp2_with fail
  go_loopg [5] 0 (fun k i wr => i = .int .i64 0 ∧ wr = w)
  case atStart => exact ⟨rfl, rfl⟩
  case round =>
    obtain ⟨rfl, rfl⟩ := hrel
    go_wp2_with fail
    go_end0
    exact ⟨rfl, rfl⟩

theorem spoil_at (w : World) (g n m : Nat) (full : List UInt8) (y : Int) (b : UInt8) (hy : y = (b.toNat : Int)) (hr : RowB 5 w g full) (hm : full.length = m) (hmm : m ≤ maxLen) (hn : n ≤ m) :
    Calls Try.prog 28 #[.slice (some ⟨g, 0, none⟩) n m, .int .u8 y] w (SpoilRow w g (full.map (· + b))) := by
  subst hm
  subst hy
  exact spoil_row w g n full b hr hmm hn
def SpoilEnd (w : World) (v : Value) (e : Ending) (w' : World) : Prop := e = .returned (.tuple #[]) ∧ w.grownBy w' v.ownBlock
theorem spoil_own (w : World) (base : Nat) (v : Value) (xs : List UInt8) (y : Int) (b : UInt8) (hy : y = (b.toNat : Int)) (h : OwnB 5 w base v xs) :
    Calls Try.prog 28 #[v, .int .u8 y] w (SpoilEnd w v) := by
  subst hy
  rcases h with ⟨rfl, rfl⟩ | ⟨g, full, rfl, hb, hr, ht, hm⟩
  · exact (spoil_nil w b).mono fun e w' ⟨he, hw⟩ => ⟨he, hw ▸ World.grownBy.refl _ _⟩
  · exact (spoil_row w g xs.length full b hr hm (OwnB.len (g := g) ht)).mono fun e w' ⟨he, _, hg⟩ => ⟨he, hg⟩
end Go.Proofs.Ytlcdabmclcfagaa
