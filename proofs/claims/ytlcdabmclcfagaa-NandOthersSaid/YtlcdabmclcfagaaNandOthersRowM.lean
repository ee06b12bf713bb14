import Derived.OpenShut
import Derived.ShutString
import Derived.ChangeOld
import Derived.Test.YtlcdabmclcfagaaRows
import Derived.Test.YtlcdabmclcfagaaOpenNM
import Derived.Test.YtlcdabmclcfagaaNandOthersM
set_option linter.unusedVariables false
set_option linter.unusedSimpArgs false
/-
  no other page changes; without the document's answer. (Behind the first 40 acts.)
  No condition: every input that can be read.
-/
namespace Go.Proofs.Ytlcdabmclcfagaa.nandOthers
open Go.ChangeShapes Go.WideShapes Go.ChangeAt Go.RowKit

theorem own : ownKnob Try.prog.godebug = none := by kernel_rfl
theorem laidOut : laidOutB Try.prog = true := by kernel_rfl

set_option maxRecDepth 100000 in
theorem lifted (os : Os) (started : os.Started) (H : Type) (enc : TypeId × Value → H) :
    ReturnsInHanded {} Try.checked os 5 .any (Rows.nandOthersSpec.pre6 enc Try.prog Try.f5 Rows.nandOthersRow.domain false) (Rows.nandOthersSpec.post enc Try.prog Try.f5 false true false false) := by
  refine returnsInHanded_of_change_sized (C := Try.checked) own started (by kernel_rfl) Try.func5
    (ChangeSpec.witness6 (enc := enc) (C := Try.checked) false ⟨#[], #[.agg #[.int .i64 0, .int .i64 0, .int .i64 0, .int .i64 0], .slice none 0 0, .agg #[.int .i64 0, .int .i64 0, .int .i64 0, .int .u8 0, .slice none 0 0, .slice none 0 0]], []⟩ 8 (by kernel_rfl) (by kernel_rfl) (by kernel_rfl) (by kernel_rfl)) ?_
  intro W base args ds gs before hval0 hW hcnd hsz0 _
  have hval : ∀ (j : Nat) t v, Try.f5.params[j]? = some t → args[j]? = some v → Value.okWide Try.prog W .any base t v := hval0
  have hsz : (DataW.weightsEach Try.prog (Try.f5.params.toList ++ Rows.nandOthersSpec.plain.varTypes Try.prog) (ds ++ gs)).all (· ≤ reachBytes) = true := hsz0
  have hW' := hW
  obtain ⟨p, q, hA0, hV, rfl, hfz, hnd⟩ := hW
  have hA : DataW.TrodAll enc Try.prog W 0 (fun _ => true) true Try.f5.params.toList args.toList ds p := hA0
  rw [Try.params5] at hA hval hsz
  obtain ⟨v0, vs0, d0, ds0, p0, q0, hargs, rfl, rfl, h0, r0⟩ := trodAll_cons hA
  obtain ⟨v1, vs1, d1, ds1, p1, q1, rfl, rfl, rfl, h1, r1⟩ := trodAll_cons r0
  obtain ⟨v2, vs2, d2, ds2, p2, q2, rfl, rfl, rfl, h2, r2⟩ := trodAll_cons r1
  obtain ⟨rfl, rfl, rfl⟩ := trodAll_nil r2
  obtain rfl : args = #[v0, v1, v2] := by cases args; simp_all
  obtain ⟨rfl, rfl⟩ := trodVars_none hV
  have k0 := h0
  have lt0 : ∀ x ∈ p0, x.block < W.heap.size := by obtain ⟨m, hm⟩ := k0; exact DataW.trod_lt m _ _ _ hm
  have k1 := h1
  have lt1 : ∀ x ∈ p1, x.block < W.heap.size := by obtain ⟨m, hm⟩ := k1; exact DataW.trod_lt m _ _ _ hm
  have k2 := h2
  have lt2 : ∀ x ∈ p2, x.block < W.heap.size := by obtain ⟨m, hm⟩ := k2; exact DataW.trod_lt m _ _ _ hm
  obtain ⟨gB0, gP0, gS0, gN0, rfl⟩ := open_geo Try.underlying28 Try.underlying3 Try.underlying3 Try.underlying3 Try.underlying3 (by kernel_rfl) rfl (by simp only [Prod.mk.injEq]; exact ⟨by kernel_rfl, by kernel_rfl, by kernel_rfl, by kernel_rfl⟩) (hval 0 28 v0 rfl rfl) h0
  obtain ⟨A1, c1, x1, rfl, hr1, hL1⟩ := open_acts Try.underlying43 Try.underlying49 Try.underlying3 Try.underlying3 Try.underlying3 Try.underlying5 Try.underlying22 Try.underlying37 Try.underlying5 Try.underlying36 Try.underlying3 Try.underlying4 Try.underlying22 (by simp only [Prod.mk.injEq]; exact ⟨by kernel_rfl, by kernel_rfl, by kernel_rfl, by kernel_rfl, by kernel_rfl, by kernel_rfl, by kernel_rfl⟩) rfl (by simp only [Prod.mk.injEq]; exact ⟨by kernel_rfl, by kernel_rfl, by kernel_rfl, by kernel_rfl, by kernel_rfl⟩) rfl (by kernel_rfl) (by kernel_rfl) (hval 1 43 v1 rfl rfl) (fun n hn => of_decide_eq_true (List.all_eq_true.1 hsz n (DataW.weights_mem_each (j := 1) (t := 43) rfl rfl n hn))) h1
  have hR1 := reach_slice hsz (j := 1) (t := 43) (e := 49) rfl rfl Try.underlying43 hL1
  rw [show Try.prog.bytesOf 49 = 80 by kernel_rfl] at hR1
  obtain ⟨x2, Ab2, db2, Ah2, dh2, rfl, hr2⟩ := open_act1 Try.underlying49 Try.underlying3 Try.underlying3 Try.underlying3 Try.underlying5 Try.underlying22 Try.underlying37 Try.underlying5 Try.underlying36 Try.underlying3 Try.underlying4 Try.underlying22 (by simp only [Prod.mk.injEq]; exact ⟨by kernel_rfl, by kernel_rfl, by kernel_rfl, by kernel_rfl, by kernel_rfl, by kernel_rfl, by kernel_rfl⟩) rfl (by simp only [Prod.mk.injEq]; exact ⟨by kernel_rfl, by kernel_rfl, by kernel_rfl, by kernel_rfl, by kernel_rfl⟩) rfl (by kernel_rfl) (by kernel_rfl) (hval 2 49 v2 rfl rfl) (fun n hn => of_decide_eq_true (List.all_eq_true.1 hsz n (DataW.weights_mem_each (j := 2) (t := 49) rfl rfl n hn))) h2
  clear hA0 hval0
  refine (walkNandOthers W gB0 gP0 gS0 gN0 A1 c1 x1 hr1 hR1 x2 Ab2 db2 Ah2 dh2 hr2).mono fun e W' ⟨he, bel⟩ => ?_
  subst he
  exact ⟨_, rfl, _, _, _, [], _, [], hW', trodAll_mk1 (shut_bool Try.underlying4 _), (trodAll_cons_mk (Below.trod laidOut (by kernel_rfl) (of_decide_eq_true (by kernel_rfl)) k0 bel lt0) (trodAll_cons_mk (Below.trod laidOut (by kernel_rfl) (of_decide_eq_true (by kernel_rfl)) k1 bel lt1) (trodAll_cons_mk (Below.trod laidOut (by kernel_rfl) (of_decide_eq_true (by kernel_rfl)) k2 bel lt2) trodAll_mk0))), rfl, bel.frame _, fun h => by cases h⟩

theorem proved : Rows.NandOthersSaid :=
  OpenClaim.holds_of_wide 5 Try.f5 rfl rfl rfl rfl rfl rfl rfl ⟨rfl, rfl, rfl, rfl, rfl⟩ rfl rfl rfl rfl rfl (by kernel_rfl) Try.func5 (by kernel_rfl)
    (of_decide_eq_true (by kernel_rfl)) (by unfold Func.isWrapper; first | (rw [if_pos (by decide +kernel)]; kernel_rfl) | (rw [if_neg (by decide +kernel)]; exact ⟨rfl, rfl⟩))
    (fun os started H enc _ => lifted os started H enc)
#print axioms proved
end Go.Proofs.Ytlcdabmclcfagaa.nandOthers
