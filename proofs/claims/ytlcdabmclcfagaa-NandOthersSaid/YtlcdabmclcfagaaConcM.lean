import Derived.Lib.AppendZerosOnto
import Derived.Lib.Walk
import Derived.Deep.QuietTactic
import Derived.BigQuiet
import Derived.Test.YtlcdabmclcfagaaProg
import Derived.Test.YtlcdabmclcfagaaAppM
import Derived.Test.YtlcdabmclcfagaaMBase
set_option linter.unusedVariables false
set_option linter.unusedSimpArgs false
/- Go's own Grow (of nil) and Concat, of bytes: contracts (the part of XConcat that needs no rec.join). -/
namespace Go.Proofs.Ytlcdabmclcfagaa
open Go.RowKit

set_option maxRecDepth 100000 in
set_option maxHeartbeats 1000000 in
theorem growNil_any (w : World) (n : Nat) (hn : n ≤ 140737488355328) :
    Calls Try.prog 64 #[.slice none 0 0, .int .i64 n] w fun e w' => ∃ v, e = .returned v ∧ OwnB 5 w' w.heap.size v [] ∧ Below w.heap.size w w' := by
  by_cases h0 : n = 0
  · subst h0
    go_enter Try.func64, Try.ntmps64
    go_wp2_with fail
    go_ret
    exact ⟨_, rfl, OwnB.nil _ _ _, Below.refl _ _⟩
  · obtain ⟨i, hi, hz0, hz1, hz2⟩ := app_info (P := Try.prog) (e := 5) u8info
    have hrun : ∀ ty, (Builtin.append_ #[22, 3] ty #[.slice none 0 0, .int .i64 (n : Int)]).run Try.prog w =
        .ok (.slice (some ⟨w.heap.size, 0, none⟩) n (grownCap w n 0 5)) (w.drew.alloc (.cells (#[] ++ Builtin.zeroCells #[.int .u8 0] n ++ Builtin.zeroCells #[.int .u8 0] (grownCap w n 0 5 - n)) 5)) := fun ty => by
      have h := Lib.run_append_grow_zeros (P := Try.prog) w 22 3 ty 5 i _ .i64 .i64 Try.underlying22 Try.underlying3 hi hz0 none 0 0 [] (run_firstCells_none w.drew i.size 0 0 0) n (by omega) (by omega) (by omega) (by omega)
        (by rw [hz2]; omega) (by rw [hz2]; exact growslice_fits (by omega) (by omega))
      rw [show (Value.int IntKind.u8 0).cells = #[.int .u8 0] from rfl] at h
      simpa using h
    have hG := grownCap_ge w n 0 5
    have hGm := grownCap_le_maxLen w n 0 5 (by unfold maxLen; omega)
    have hcs : (#[] ++ Builtin.zeroCells #[Value.int .u8 0] n ++ Builtin.zeroCells #[Value.int .u8 0] (grownCap w n 0 5 - n)) = (bv (List.replicate (grownCap w n 0 5) 0)).toArray := by
      apply Array.toList_inj.1
      simp only [Array.toList_append, zeroCells_byte]
      rw [show grownCap w n 0 5 = n + (grownCap w n 0 5 - n) from by omega, ← List.replicate_append_replicate, bv_append]
      simp
    simp only [hcs] at hrun
    have hrow : RowB 5 (w.drew.alloc (.cells (bv (List.replicate (grownCap w n 0 5) 0)).toArray 5)) w.heap.size (List.replicate (grownCap w n 0 5) 0) := RowB.new w.drew _ _
    have hbel : Below w.heap.size w (w.drew.alloc (.cells (bv (List.replicate (grownCap w n 0 5) 0)).toArray 5)) := ((Below.refl _ _).drew).alloc (Nat.le_refl _) _
    generalize (w.drew.alloc (.cells (bv (List.replicate (grownCap w n 0 5) 0)).toArray 5)) = W at *
    generalize grownCap w n 0 5 = G at *
    unfold maxLen at hGm
    have HW := Lib.hid (And.intro hrow hbel)
    have hpos : 0 < n := by omega
    clear hrow hbel hcs hz0 hz1 hz2 hi h0
    go_enter Try.func64, Try.ntmps64
    go_wp2_with (at_builtin; refine Lib.wpList_append_run _ rfl _ _ _ _ rfl _ _ rfl rfl _ _ (hrun _) ?_)
    go_ret
    refine ⟨_, rfl, .inr ⟨w.heap.size, List.replicate G 0, ?_, Nat.le_refl _, HW.out.1, by simp, ?_⟩, HW.out.2⟩
    · rw [List.length_replicate]; rfl
    · rw [List.length_replicate]; unfold maxLen; exact hGm

theorem flat_take {ls : List (List UInt8)} {j : Nat} {l : List UInt8} (h : ls[j]? = some l) : (ls.take (j + 1)).flatten = (ls.take j).flatten ++ l := by
  rw [List.take_add_one, h]
  simp
theorem flat_le (ls : List (List UInt8)) (j : Nat) : (ls.take j).flatten.length ≤ ls.flatten.length := by
  conv => rhs; rw [← List.take_append_drop j ls]
  rw [List.flatten_append, List.length_append]
  omega

set_option maxRecDepth 100000 in
set_option maxHeartbeats 1000000 in
theorem concat_any (w : World) (G c : Nat) (ls : List (List UInt8)) (m : Nat) (hm : ls.length = m) (hm8 : m ≤ 1000000) (hG : G < w.heap.size) (hsum : ls.flatten.length ≤ 140737488355328)
    (hc : ∀ j l, ls[j]? = some l → ∃ A d, w.cell? ⟨G, j, none⟩ = some (.slice A l.length d) ∧ RV w A (bv l)) :
    Calls Try.prog 50 #[.slice (some ⟨G, 0, none⟩) m c] w fun e w' => ∃ v, e = .returned v ∧ OwnB 5 w' w.heap.size v ls.flatten ∧ Below w.heap.size w w' := by
  have H := Lib.hid (And.intro hm (And.intro hsum hc))
  clear hm hc
  generalize hS : ls.flatten.length = S at hsum
  have HS := Lib.hid hS
  clear hS
  go_enter Try.func50, Try.ntmps50
  go_wp2_with fail
  go_loopg [3, 11] m (fun k s i wr => ∃ j : Nat, j + k = m ∧ i = .int .i64 j ∧ s = .int .i64 ((ls.take j).flatten.length : Nat) ∧ wr = w)
  case atStart => exact ⟨0, by omega, rfl, rfl, rfl⟩
  case round =>
    obtain ⟨j, hj, rfl, rfl, rfl⟩ := hrel
    have HX := Lib.hid hj
    clear hj
    by_cases hlt : j < m
    · obtain ⟨l, hl⟩ : ∃ l, ls[j]? = some l := ⟨_, List.getElem?_eq_getElem (by have := H.out.1; omega)⟩
      obtain ⟨A, d, hcj, _⟩ := H.out.2.2 j l hl
      have hft := flat_take hl
      have hle := flat_le ls (j + 1)
      rw [hft, List.length_append, HS.out] at hle
      have hft2 : (ls.take (j + 1)).flatten.length = (ls.take j).flatten.length + l.length := by rw [hft, List.length_append]
      have HF := Lib.hid hft2
      clear hft hft2 hl
      generalize (ls.take j).flatten.length = p at *
      generalize l.length = q at *
      go_wp2_with fail
      go_roundg (m - (j + 1))
      case measure => have := HX.out; omega
      case rel => exact ⟨j + 1, by have := HX.out; omega, by go_num, by rw [HF.out]; go_num, rfl⟩
    · obtain rfl : j = m := by have := HX.out; omega
      have hfin : (ls.take j).flatten.length = S := by rw [List.take_of_length_le (by rw [H.out.1]; exact Nat.le_refl _), HS.out]
      rw [hfin]
      clear hfin
      obtain ⟨wo, rfl⟩ : ∃ wo : World, wo = wr := ⟨_, rfl⟩
      go_wp2_with fail
      refine (growNil_any _ S hsum).mono ?_
      rintro e w1 ⟨v1, rfl, ho1, hb1⟩
      have H1 := Lib.hid (And.intro ho1 hb1)
      clear ho1 hb1
      go_wp2_with fail
      go_loopg [6, 27] j (fun k v i wr => ∃ t : Nat, t + k = j ∧ i = .int .i64 t ∧ OwnB 5 wr wo.heap.size v (ls.take t).flatten ∧ Below wo.heap.size wo wr)
      case atStart => exact ⟨0, by omega, rfl, H1.out.1, H1.out.2⟩
      case round =>
        obtain ⟨t, ht, rfl, ho, hb⟩ := hrel
        have HX := Lib.hid (And.intro ht (And.intro ho hb))
        clear ht ho hb
        by_cases hlt : t < j
        · obtain ⟨l, hl⟩ : ∃ l, ls[t]? = some l := ⟨_, List.getElem?_eq_getElem (by have := H.out.1; omega)⟩
          obtain ⟨A, d, hcj, hrv⟩ := H.out.2.2 t l hl
          have hcj := (World.cell?_of_block (HX.out.2.2.block G hG)).trans hcj
          have hft := flat_take hl
          have hle := flat_le ls (t + 1)
          rw [hft, List.length_append, HS.out] at hle
          have HF := Lib.hid (And.intro hft (And.intro (hrv.below HX.out.2.2) (And.intro HX.out.2.1 rfl : _ ∧ l.length = l.length)))
          clear hft hl hrv
          generalize (ls.take t).flatten = xs at *
          generalize hq : l.length = q at *
          have HQ := Lib.hid hq
          clear hq
          go_wp2_with (at_builtin; refine wpList_appB _ rfl _ _ 22 rfl wo.heap.size 5 Try.underlying22 u8info u6 xs rfl HF.out.2.2.1 A q d l rfl HQ.out HF.out.2.1 ?_ ?_ ?_)
          · rw [HQ.out]; omega
          · exact HX.out.2.2.size
          intro v2 w2 ho2 hg2 hv2
          have hb2 := HX.out.2.2.grown hg2 HX.out.2.2.size fun k e => (HF.out.2.2.1.blk e).1
          have H2 := Lib.hid (And.intro ho2 hb2)
          clear ho2 hg2 hv2 hb2
          go_wp2_with fail
          obtain ⟨ht, _, _⟩ := HX.out
          go_roundg (j - (t + 1))
          case measure => omega
          case rel => exact ⟨t + 1, by omega, by go_num, by rw [HF.out.1]; exact H2.out.1, H2.out.2⟩
        · obtain rfl : t = j := by have := HX.out.1; omega
          go_wp2_with fail
          go_ret
          obtain ⟨_, ho, hb⟩ := HX.out
          rw [List.take_of_length_le (by rw [H.out.1]; exact Nat.le_refl _)] at ho
          exact ⟨_, rfl, ho, hb⟩
end Go.Proofs.Ytlcdabmclcfagaa
