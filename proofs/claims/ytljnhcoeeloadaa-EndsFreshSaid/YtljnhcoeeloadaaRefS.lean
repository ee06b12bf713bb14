/- The document's reader: Row, Left; its row of bytes; Copy. -/
import Derived.Test.YtljnhcoeeloadaaRefR
set_option linter.unusedVariables false
set_option linter.unusedSimpArgs false
namespace Go.Proofs.Ytljnhcoeeloadaa
open Go.RowKit

def RRowEnd (w : World) (g : Nat) (h : Option Nat) (st : Option (List UInt8)) (e : Ending) (w' : World) : Prop :=
  ∃ v, e = .returned (.tuple #[v, .int .i64 ((rowS st).2.1 : Nat)]) ∧ OwnB 5 w' w.heap.size v (rowS st).1 ∧ RdR w' g h (rowS st).2.2 ∧ w.grownBy w' (some g)

theorem grown_drawn {a b : World} (h : Drawn a b) (row : Option Nat) : a.grownBy b row := grown_of_below (h.below _) row

set_option maxHeartbeats 1000000 in
theorem rrow_no {w : World} {g : Nat} {h : Option Nat} (r : RdR w g h none) :
    Calls Try.prog 12 #[.pointer (some ⟨g, 0, none⟩)] w (RRowEnd w g h none) := by
  have R := Lib.hid r
  obtain ⟨hne, l, no, A, c, hb, hr, hlc, hc, hA, hst⟩ := r
  cases no with
  | false => cases hst
  | true =>
    have c0 := hb.cell 0
    have c1 := hb.cell 1
    have f1 := hb.frozen 1
    simp at c0 c1
    have HX := Lib.hid (fun n : Nat => rdr_no (w := w.drewN n) hne hb (hr.drewN n) hlc hc hA)
    unfold maxLen at hc
    clear hb hr hA hst
    go_enter Try.func12, Try.ntmps12
    go_wp2_with fail
    go_quiet (fail)
    go_wp2
    go_ret2
    exact ⟨_, rfl, OwnB.nil _ _ _, HX.out nq, grown_trans (grown_drewN w nq _) (grown_setCell _ _ _ _)⟩

set_option maxHeartbeats 1000000 in
theorem rrow_nil {w : World} {g : Nat} {h : Option Nat} (r : RdR w g h (some [])) :
    Calls Try.prog 12 #[.pointer (some ⟨g, 0, none⟩)] w (RRowEnd w g h (some [])) := by
  have R := Lib.hid r
  obtain ⟨hne, l, no, A, c, hb, hr, hlc, hc, hA, hst⟩ := r
  cases no with
  | true => cases hst
  | false =>
    obtain rfl : [] = l := by simpa using hst
    have c0 := hb.cell 0
    have c1 := hb.cell 1
    have f1 := hb.frozen 1
    simp at c0 c1
    have HX := Lib.hid (fun n : Nat => rdr_no (w := w.drewN n) hne hb (hr.drewN n) hlc hc hA)
    unfold maxLen at hc
    clear hb hr hA hst
    go_enter Try.func12, Try.ntmps12
    go_wp2_with fail
    go_quiet (fail)
    go_wp2
    go_ret2
    exact ⟨_, rfl, OwnB.nil _ _ _, HX.out nq, grown_trans (grown_drewN w nq _) (grown_setCell _ _ _ _)⟩

set_option maxHeartbeats 1000000 in
theorem rrow_long {w : World} {g : Nat} {h : Option Nat} {b : UInt8} {l : List UInt8} (r : RdR w g h (some (b :: l))) (hl : l.length < b.toNat) :
    Calls Try.prog 12 #[.pointer (some ⟨g, 0, none⟩)] w (RRowEnd w g h (some (b :: l))) := by
  have hs : rowS (some (b :: l)) = ([], 4, none) := by simp [rowS, hl]
  obtain ⟨hne, l', no, A, c, hb, hr, hlc, hc, hA, hst⟩ := r
  cases no with
  | true => cases hst
  | false =>
    obtain rfl : b :: l = l' := by simpa using hst
    have c0 := hb.cell 0
    have c1 := hb.cell 1
    have f1 := hb.frozen 1
    simp only [List.getElem?_toArray, List.getElem?_cons_zero, List.getElem?_cons_succ] at c0 c1
    have hx := b.toNat_lt
    obtain ⟨ad, rfl, hcell⟩ := hr (by simp [bv])
    have cb := hcell 0 (.int .u8 (b.toNat : Int)) (by simp [bv])
    rw [add_zero] at cb
    have HX := Lib.hid (fun n : Nat => rdr_no (w := w.drewN n) hne hb (hr.drewN n) hlc hc hA)
    unfold maxLen at hc
    have HS := Lib.hid hs
    have hlen : (b :: l).length = l.length + 1 := rfl
    rw [hlen] at c0 hlc
    clear hb hr hA hst hs hcell hlen
    generalize b.toNat = x at *
    have h1 : ((l.length : Int) + 1 < 1) = False := by simp; omega
    go_enter Try.func12, Try.ntmps12
    go_wp2_with fail
    go_quiet (fail)
    go_wp2
    go_ret2
    refine ⟨.slice none 0 0, ?_, ?_, ?_, grown_trans (grown_drewN w nq _) (grown_setCell _ _ _ _)⟩
    · rw [HS.out]; rfl
    · rw [HS.out]; exact OwnB.nil _ _ _
    · rw [HS.out]; exact HX.out nq

theorem rleft_any {w : World} {g : Nat} {h : Option Nat} {st : Option (List UInt8)} (r : RdR w g h st) :
    Calls Try.prog 15 #[.pointer (some ⟨g, 0, none⟩)] w fun e w' => e = .returned (.int .i64 (leftS st : Nat)) ∧ w = w' := by
  obtain ⟨hne, l, no, A, c, hb, hr, hlc, hc, hA, hst⟩ := r
  have c0 := hb.cell 0
  have c1 := hb.cell 1
  simp at c0 c1
  have HST := Lib.hid hst
  clear hb hr hlc hc hA hst
  cases no
  all_goals
    go_enter Try.func15, Try.ntmps15
    go_wp2
    go_ret
    exact ⟨by rw [HST.out]; rfl, rfl⟩
end Go.Proofs.Ytljnhcoeeloadaa
