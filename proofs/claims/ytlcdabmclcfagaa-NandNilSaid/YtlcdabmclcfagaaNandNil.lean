/- NandNil: the walk. -/
import Derived.Test.YtlcdabmclcfagaaWorks03
set_option linter.unusedVariables false
set_option linter.unusedSimpArgs false
namespace Go.Proofs.Ytlcdabmclcfagaa
open Go.RowKit

/-- No chip, or one that no call made. -/
def OffC (w : World) (A : Option Addr) : Prop := ∀ w', Below w.heap.size w w' → Calls Try.prog 41 #[.pointer A] w' fun e w2 => e = .returned (.bool true) ∧ w2 = w'
theorem offC_nil (w : World) : OffC w none := fun w' _ => off_nil w'
theorem offC_zero (w : World) (cs : Array Value) (h : cs[4]? = some (.slice none 0 0)) : OffC (w.alloc (.cells cs 65)) (some ⟨w.heap.size, 0, none⟩) := by
  intro w' hb
  have hB := (Blk.new w 65 cs).below hb (by rw [alloc_sz]; exact Nat.lt_succ_self _)
  exact off_cell w' w.heap.size none 0 0 ((hB.cell 4).trans h)
theorem OffC.now {w : World} {A : Option Addr} (h : OffC w A) : Calls Try.prog 41 #[.pointer A] w fun e w2 => e = .returned (.bool true) ∧ w2 = w := h w (Below.refl _ _)
theorem OffC.then {w w1 : World} {A : Option Addr} (h : OffC w A) (hb : Below w.heap.size w w1) : OffC w1 A := fun w' hb' => h w' (below_then hb hb.size hb')

set_option maxRecDepth 100000 in
set_option maxHeartbeats 2000000 in
theorem walkNandNil (w : World) (b : Int) (wb : (Lit.int .i64 b).wf = true) (p : Int) (wp : (Lit.int .i64 p).wf = true) (A : Option Addr) (c : Nat) (xs : List UInt8) (hr : RV w A (bv xs)) (hR : xs.length ≤ 140737488351232) (z : Bool) :
    Calls Try.prog 8 #[.int .i64 b, .int .i64 p, .slice A xs.length c, .bool z] w fun e w' => e = .returned (.bool true) ∧ Below w.heap.size w w' := by
  clear hr hR wb wp
  generalize xs.length = n
  cases z with
  | false =>
    have H := Lib.hid (offC_nil w)
    go_enter Try.func8, Try.ntmps8
    go_wp2_with fail
    refine (read_off w none b p H.out.now).mono ?_
    rintro e w1 ⟨rfl, rfl⟩
    go_wp2_with fail
    refine (power_off _ none H.out.now).mono ?_
    rintro e w2 ⟨rfl, rfl⟩
    go_wp2_with fail
    refine (program_off _ none b p (.slice A n c) rfl H.out A n c rfl).mono ?_
    rintro e w3 ⟨rfl, hb3⟩
    have H3 := Lib.hid (And.intro (H.out.then hb3) hb3)
    clear hb3 H
    go_wp2_with fail
    refine (erase_off _ none b H3.out.1.now).mono ?_
    rintro e w4 ⟨rfl, rfl⟩
    go_wp2_with fail
    refine (hits_off _ none (.slice none 0 0) none 0 0 rfl H3.out.1.now).mono ?_
    rintro e w5 ⟨rfl, rfl⟩
    go_wp2_with fail
    refine (bad_off _ none b H3.out.1.now).mono ?_
    rintro e w6 ⟨rfl, rfl⟩
    go_wp2_with fail
    refine (deeds_off _ none H3.out.1.now).mono ?_
    rintro e w7 ⟨rfl, rfl⟩
    go_wp2_with fail
    refine (bytes_off _ none H3.out.1.now).mono ?_
    rintro e w8 ⟨rfl, rfl⟩
    go_wp2_with fail
    refine (geo_off _ none H3.out.1).mono ?_
    rintro e w9 ⟨rfl, hb9⟩
    have H9 := Lib.hid (below_then H3.out.2 H3.out.2.size hb9)
    clear hb9 H3
    go_wp2_with fail
    refine (works_any w9).mono ?_
    rintro e w10 ⟨rfl, hb10⟩
    have H10 := Lib.hid (below_then H9.out H9.out.size hb10)
    clear hb10 H9
    go_wp2_with fail
    go_ret
    exact ⟨rfl, H10.out⟩
  | true =>
    have hz := offC_zero w #[.int .i64 0, .int .i64 0, .int .i64 0, .int .i64 0, .slice none 0 0, .slice none 0 0, .slice none 0 0, .int .i64 0, .bool false, .int .i64 0] rfl
    have hb0 := (Below.refl w.heap.size w).alloc (Nat.le_refl _) (.cells #[.int .i64 0, .int .i64 0, .int .i64 0, .int .i64 0, .slice none 0 0, .slice none 0 0, .slice none 0 0, .int .i64 0, .bool false, .int .i64 0] 65)
    have H := Lib.hid hz
    have H0 := Lib.hid hb0
    clear hz hb0
    go_enter Try.func8, Try.ntmps8
    go_wp2_with fail
    refine (read_off _ (some ⟨w.heap.size, 0, none⟩) b p H.out.now).mono ?_
    rintro e w1 ⟨rfl, rfl⟩
    go_wp2_with fail
    refine (power_off _ (some ⟨w.heap.size, 0, none⟩) H.out.now).mono ?_
    rintro e w2 ⟨rfl, rfl⟩
    go_wp2_with fail
    refine (program_off _ (some ⟨w.heap.size, 0, none⟩) b p (.slice A n c) rfl H.out A n c rfl).mono ?_
    rintro e w3 ⟨rfl, hb3⟩
    have H3 := Lib.hid (And.intro (H.out.then hb3) (below_then H0.out H0.out.size hb3))
    clear hb3 H H0
    go_wp2_with fail
    refine (erase_off _ (some ⟨w.heap.size, 0, none⟩) b H3.out.1.now).mono ?_
    rintro e w4 ⟨rfl, rfl⟩
    go_wp2_with fail
    refine (hits_off _ (some ⟨w.heap.size, 0, none⟩) (.slice none 0 0) none 0 0 rfl H3.out.1.now).mono ?_
    rintro e w5 ⟨rfl, rfl⟩
    go_wp2_with fail
    refine (bad_off _ (some ⟨w.heap.size, 0, none⟩) b H3.out.1.now).mono ?_
    rintro e w6 ⟨rfl, rfl⟩
    go_wp2_with fail
    refine (deeds_off _ (some ⟨w.heap.size, 0, none⟩) H3.out.1.now).mono ?_
    rintro e w7 ⟨rfl, rfl⟩
    go_wp2_with fail
    refine (bytes_off _ (some ⟨w.heap.size, 0, none⟩) H3.out.1.now).mono ?_
    rintro e w8 ⟨rfl, rfl⟩
    go_wp2_with fail
    refine (geo_off _ (some ⟨w.heap.size, 0, none⟩) H3.out.1).mono ?_
    rintro e w9 ⟨rfl, hb9⟩
    have H9 := Lib.hid (below_then H3.out.2 H3.out.2.size hb9)
    clear hb9 H3
    go_wp2_with fail
    refine (works_any w9).mono ?_
    rintro e w10 ⟨rfl, hb10⟩
    have H10 := Lib.hid (below_then H9.out H9.out.size hb10)
    clear hb10 H9
    go_wp2_with fail
    go_ret
    exact ⟨rfl, H10.out⟩
end Go.Proofs.Ytlcdabmclcfagaa
