import Derived.Laws.BitsAllLaws
import Derived.Laws.CopyOwn
import Derived.Test.YtlcdabmclcfagaaNdMM
import Derived.Test.YtlcdabmclcfagaaCopyBM
import Derived.Test.YtlcdabmclcfagaaMOrd
set_option linter.unusedVariables false
set_option linter.unusedSimpArgs false
/- math/bits.Mul of one, slices.Repeat of one byte: contracts. -/
namespace Go.Proofs.Ytlcdabmclcfagaa
open Go.RowKit

theorem and_mask (n : Nat) (h : n < 4294967296) : bits .and .u64 (n : Int) 4294967295 = (n : Int) := by
  have := u64_and_nat n 4294967295 (by omega) (by omega)
  rw [show ((4294967295 : Nat) : Int) = 4294967295 from rfl] at this
  rw [this, show (4294967295 : Nat) = 2 ^ 32 - 1 from rfl, Nat.and_two_pow_sub_one_eq_mod, Nat.mod_eq_of_lt (by omega)]
set_option maxRecDepth 100000 in
set_option maxHeartbeats 400000 in
theorem mul64_one (w : World) (n : Nat) (hn : n ≤ 524288) :
    Calls Try.prog 69 #[.int .u64 1, .int .u64 (n : Int)] w fun e w' => e = .returned (.tuple #[.int .u64 0, .int .u64 (n : Int)]) ∧ w' = w := by
  have h1 := and_mask n (by omega)
  have h2 : bits .and .u64 1 4294967295 = 1 := by decide +kernel
  have h3 : (n : Int) / 4294967296 = 0 := by omega
  have h4 : bits .and .u64 0 4294967295 = 0 := by decide +kernel
  go_enter Try.func69, Try.ntmps69
  go_wp2_with fail
  go_ret2
  exact ⟨rfl, rfl⟩
set_option maxRecDepth 100000 in
set_option maxHeartbeats 400000 in
theorem mul_one (w : World) (n : Nat) (hn : n ≤ 524288) :
    Calls Try.prog 56 #[.int .u64 1, .int .u64 (n : Int)] w fun e w' => e = .returned (.tuple #[.int .u64 0, .int .u64 (n : Int)]) ∧ w' = w := by
  have HM := Lib.hid (mul64_one w n hn)
  go_enter Try.func56, Try.ntmps56
  go_wp2_with fail
  refine HM.out.mono ?_
  rintro e w1 ⟨rfl, rfl⟩
  go_wp2_with fail
  go_ret2
  exact ⟨rfl, rfl⟩
theorem wp_copyB {P : Program} {w : World} {o : Oper} {a : Act} {K : Act → World → Prop} {Q : Exit → Act → World → Prop} (d s : Operand) (T : TypeId)
    (ho : o.op = .call { callee := .builtin .copy, args := #[d, s], argTypes := #[T, T] }) (e : TypeId) (hu : P.underlying T = some (.slice e)) (hinfo : (P.info? e).map (fun i => (i.zero, i.size, i.bytes)) = some (some (.int .u8 0), 1, 1))
    (g off dLen dCap q m c : Nat) (A : Option Addr) (hd : a.eval d = .slice (some ⟨g, off, none⟩) dLen dCap) (hs : a.eval s = .slice A m c) (full : List UInt8) (hrow : RowB e w g full) (ys : List UInt8) (hm : ys.length = q) (hq : q = min m dLen) (hr : RV w A (bv ys))
    (hfit : off + q ≤ full.length) (B : Nat) (w0 : World) (hb : Below B w0 w) (hBg : B ≤ g) (hgd : o.guard = none := by rfl)
    (h : ∀ w', RowB e w' g (full.take off ++ (ys ++ full.drop (off + q))) → Below B w0 w' → K (a.put o.dst (goInt q)) w') : Oper.wp P o a w K Q := by
  obtain ⟨i, hi, _, hz1, _⟩ := app_info hinfo
  have hw : Region.wanted o (yielded (#[] : Array Oper) a.tmps) = true := by simp [Region.wanted, hgd]
  have H := step_copy_splice (P := P) (ops := #[]) (o := o) (a := a) (w := w) (K := K) (Q := Q) (E := False) hgd d s T T ho e hu (by rw [hi]; simp [hz1]) (some ⟨g, off, none⟩) A dLen dCap m c hd hs g off (bv full) e hrow (bv ys) (by rw [bv_length, hm]; exact hq) (fun hp => by
    obtain ⟨ad, hA, hc⟩ := hr hp
    exact ⟨rfl, ad, hA, hc⟩) (by rw [bv_length, bv_length, hm]; exact hfit) (bv_oneCell ys) B w0 hb hBg (fun w' hg' hb' => by
    rw [bv_length, hm]
    refine h w' ?_ hb'
    have h1 : w'.heap[g]? = some (.cells (splice (bv full) off (bv ys)).toArray e (0, 0)) := hg'.out
    unfold RowB
    rw [h1, bv_append, bv_append, bv_take, bv_drop]
    unfold splice
    rw [bv_length, hm])
  rwa [if_pos hw] at H
theorem rep_step {m q N : Nat} (h : m + q ≤ N) : (List.replicate m (255 : UInt8) ++ List.replicate (N - m) 0).take m ++ (List.replicate q 255 ++ (List.replicate m (255 : UInt8) ++ List.replicate (N - m) 0).drop (m + q)) = List.replicate (m + q) 255 ++ List.replicate (N - (m + q)) 0 := by
  rw [List.take_left' (by simp), List.drop_append, List.drop_of_length_le (by simp), List.nil_append, List.length_replicate, Nat.add_sub_cancel_left, List.drop_replicate, ← List.append_assoc, List.replicate_append_replicate]
  congr 2
  omega

set_option maxRecDepth 100000 in
set_option maxHeartbeats 2000000 in
theorem repeat_any (w : World) (A : Option Addr) (d N : Nat) (hr : RV w A (bv [255])) (hN1 : 1 ≤ N) (hN : N ≤ 524288) :
    Calls Try.prog 34 #[.slice A 1 d, .int .i64 (N : Int)] w fun e w' => ∃ v, e = .returned v ∧ OwnB 5 w' w.heap.size v (List.replicate N 255) ∧ Below w.heap.size w w' := by
  have HM := Lib.hid (mul_one w N hN)
  have hmk := make_bytes (P := Try.prog) 22 5 Try.underlying22 u8info N (by omega)
  have HR := Lib.hid (And.intro hr (And.intro (RowB.made w 5 N) ((Below.refl w.heap.size w).alloc (Nat.le_refl _) (.cells (madeCells #[.int .u8 0] N) 5))))
  clear hr
  have t1 : decide ((N : Int) < 0) = false := decide_eq_false (by omega)
  have hN0 : ¬ (N : Int) < 0 := by omega
  go_enter Try.func34, Try.ntmps34
  go_wp2_with fail
  refine HM.out.mono ?_
  rintro e w1 ⟨rfl, rfl⟩
  have t2 : decide ((9223372036854775807 : Int) < (N : Int)) = false := decide_eq_false (by omega)
  have t3 : ¬ (9223372036854775807 : Int) < (N : Int) := by omega
  go_wp2_with (with_reducible refine wpList_copyB rfl (.tmp 31) (.tmp 32) 22 rfl 5 Try.underlying22 u8info w1.heap.size 0 _ _ 1 d A rfl rfl _ HR.out.2.1 [255] rfl (HR.out.1.below HR.out.2.2) ?_ ?_ w1.heap.size w1 HR.out.2.2 (Nat.le_refl _) ?_)
  · omega
  · rw [List.length_replicate]; omega
  intro w2 hr2 hb2
  have hr2' : RowB 5 w2 w1.heap.size (List.replicate 1 255 ++ List.replicate (N - 1) 0) := hr2
  have H2 := Lib.hid (And.intro hr2' hb2)
  clear hr2 hr2' hb2
  obtain ⟨w, hw⟩ : ∃ w, w = w1 := ⟨_, rfl⟩
  subst hw
  go_wp2_with fail
  go_loopg [8] (N - 1) (fun k i wr => ∃ m : Nat, m + k = N ∧ i = .int .i64 m ∧ 1 ≤ m ∧ RowB 5 wr w.heap.size (List.replicate m 255 ++ List.replicate (N - m) 0) ∧ Below w.heap.size w wr)
  case atStart => exact ⟨1, by omega, rfl, Nat.le_refl _, H2.out.1, H2.out.2⟩
  case round =>
    obtain ⟨m, hk, rfl, hm1, hrow, hb⟩ := hrel
    have HX := Lib.hid (And.intro hk (And.intro hrow hb))
    clear hrow hb
    by_cases hlt : m < N
    · have hmI : (m : Int) < (N : Int) := by omega
      obtain ⟨q, hq⟩ : ∃ q, min m (N - m) = q := ⟨_, rfl⟩
      have hqm : q = min m (N - m) := hq.symm
      have hq1 : 1 ≤ q ∧ q ≤ m ∧ q ≤ N - m := by omega
      obtain ⟨hq1, hq2, hq4⟩ := hq1
      have HQM := Lib.hid hqm
      clear hq hqm
      have hmN : m ≤ N := by omega
      have hmNI : (m : Int) ≤ (N : Int) := by omega
      have hm0 : (0 : Int) ≤ (m : Int) := by omega
      have hne : ¬ N = m := by omega
      have HL := Lib.hid (show (List.replicate m (255 : UInt8) ++ List.replicate (N - m) 0).length = N by simp; omega)
      have HDR := Lib.hid (show RowB 5 wr.drew w.heap.size (List.replicate m 255 ++ List.replicate (N - m) 0) from HX.out.2.1)
      clear hk
      go_wp2_with fail
      refine wp_region_G (fun _ => True) 9 10 #[false, false, false, false, false, false, false, false, false, false] (by kernel_rfl) rfl (by kernel_rfl) ?_
      have hS0 : True := trivial
      refine wpAnyG_takeL (i := 0) (v := ?v1) (fuel := 9) (listed' := #[true, false, false, false, false, false, false, false, false, false]) rfl (by kernel_rfl) (fun _ _ _ h => h) (.inl ⟨by rfl, ?hy1⟩) (by assumption) (by kernel_rfl) ?rest1
      case hy1 => (intro w' hSw; (try dsimp only at hSw); go_simp; try with_reducible rfl)
      try simp only [Act.put, List.setIfInBounds_toArray, List.set_cons_zero, List.set_cons_succ]
      refine wpAnyG_takeL (i := 1) (v := ?v2) (fuel := 8) (listed' := #[true, true, false, false, false, false, false, false, false, false]) rfl (by kernel_rfl) (fun _ _ _ h => h) (.inl ⟨by rfl, ?hy2⟩) (by assumption) (by kernel_rfl) ?rest2
      case hy2 => (intro w' hSw; (try dsimp only at hSw); go_simp; try with_reducible rfl)
      try simp only [Act.put, List.setIfInBounds_toArray, List.set_cons_zero, List.set_cons_succ]
      refine wpAnyG_takeL (i := 2) (v := ?v3) (fuel := 7) (listed' := #[true, true, true, false, false, false, false, false, false, false]) rfl (by kernel_rfl) (fun _ _ _ h => h) (.inl ⟨by rfl, ?hy3⟩) (by assumption) (by kernel_rfl) ?rest3
      case hy3 => (intro w' hSw; (try dsimp only at hSw); go_simp; try with_reducible rfl)
      try simp only [Act.put, List.setIfInBounds_toArray, List.set_cons_zero, List.set_cons_succ]
      refine wpAnyG_takeL (i := 3) (v := ?v4) (fuel := 6) (listed' := #[true, true, true, true, false, false, false, false, false, false]) rfl (by kernel_rfl) (fun _ _ _ h => h) (.inl ⟨by rfl, ?hy4⟩) (by assumption) (by kernel_rfl) ?rest4
      case hy4 => (intro w' hSw; (try dsimp only at hSw); go_simp; try with_reducible rfl)
      try simp only [Act.put, List.setIfInBounds_toArray, List.set_cons_zero, List.set_cons_succ]
      refine wpAnyG_takeL (i := 4) (v := ?v5) (fuel := 5) (listed' := #[true, true, true, true, true, false, false, false, false, false]) rfl (by kernel_rfl) (fun _ _ _ h => h) (.inl ⟨by rfl, ?hy5⟩) (by assumption) (by kernel_rfl) ?rest5
      case hy5 => (intro w' hSw; (try dsimp only at hSw); go_simp; try with_reducible rfl)
      try simp only [Act.put, List.setIfInBounds_toArray, List.set_cons_zero, List.set_cons_succ]
      refine wpAnyG_takeL (i := 5) (v := ?v6) (fuel := 4) (listed' := #[true, true, true, true, true, true, false, false, false, false]) rfl (by kernel_rfl) (fun _ _ _ h => h) (.inl ⟨by rfl, ?hy6⟩) (by assumption) (by kernel_rfl) ?rest6
      case hy6 => (intro w' hSw; (try dsimp only at hSw); go_simp; try with_reducible rfl)
      try simp only [Act.put, List.setIfInBounds_toArray, List.set_cons_zero, List.set_cons_succ]
      refine wpAnyG_takeL (i := 6) (v := ?v7) (fuel := 3) (listed' := #[true, true, true, true, true, true, true, false, false, false]) rfl (by kernel_rfl) (fun _ _ _ h => h) (.inl ⟨by rfl, ?hy7⟩) (by assumption) (by kernel_rfl) ?rest7
      case hy7 => (intro w' hSw; (try dsimp only at hSw); go_simp; try with_reducible rfl)
      try simp only [Act.put, List.setIfInBounds_toArray, List.set_cons_zero, List.set_cons_succ]
      refine wpAnyG_oneL (i := 7) (fuel := 2) (listed' := #[true, true, true, true, true, true, true, true, false, false]) rfl (by kernel_rfl) (by kernel_rfl) (by rfl) (fun K hK0 => ?_)
      have hK := Lib.hid hK0
      clear hK0
      refine wp_copyB (.tmp 41) (.tmp 44) 22 rfl 5 Try.underlying22 u8info w.heap.size m (N - m) (N - m) q m N (some ⟨w.heap.size, 0, none⟩) (by rfl) (by rfl) _ HDR.out (List.replicate q 255) (by simp) HQM.out (fun _ => ⟨_, rfl, fun j u hu => ?_⟩) (by rw [HL.out]; omega) w.heap.size w (HX.out.2.2.drew) (Nat.le_refl _) rfl ?_
      · rw [bv_get, List.getElem?_replicate] at hu
        split at hu
        · rename_i hj
          injection hu with hu
          rw [← hu, add_lit0]
          have hc := HDR.out.cell (j := j) (b := 255) (by rw [List.getElem?_append_left (by rw [List.length_replicate]; omega), List.getElem?_replicate, if_pos (by omega)])
          exact hc
        · cases hu
      intro w5 hr5 hb5
      have hrr : RowB 5 w5 w.heap.size (List.replicate (m + q) 255 ++ List.replicate (N - (m + q)) 0) := by
        rw [← rep_step (m := m) (q := q) (N := N) (by omega)]
        exact hr5
      have H5 := Lib.hid (And.intro hrr hb5)
      clear hr5 hb5 hrr
      refine hK.out _ _ (.inl trivial) ?_
      clear hK K
      try simp only [Act.put, List.setIfInBounds_toArray, List.set_cons_zero, List.set_cons_succ]
      have hq3 : IntKind.i64.wrap ((m : Int) + (q : Int)) = ((m + q : Nat) : Int) := (IntWalk.i64_in _ (by omega)).trans (by omega)
      refine wpAnyG_takeL (i := 8) (v := ?v8) (fuel := 1) (listed' := #[true, true, true, true, true, true, true, true, true, false]) rfl (by kernel_rfl) (fun _ _ _ h => h) (.inl ⟨by rfl, ?hy8⟩) (by assumption) (by kernel_rfl) ?rest8
      case hy8 => (intro w' hSw; (try dsimp only at hSw); go_simp; try with_reducible rfl)
      try simp only [Act.put, List.setIfInBounds_toArray, List.set_cons_zero, List.set_cons_succ]
      refine wpAnyG_oneL (i := 9) (fuel := 0) (listed' := #[true, true, true, true, true, true, true, true, true, true]) rfl (by kernel_rfl) (by kernel_rfl) (by rfl) (fun K hK0 => ?_)
      have hK := Lib.hid hK0
      clear hK0
      go_simp
      refine hK.out _ _ (.inr (by decide)) ?_
      clear hK K
      refine wpAnyG_done (by kernel_rfl) ?_ _
      clear hS0
      go_wp2_with fail
      go_roundg (N - (m + q))
      case measure => have := HX.out.1; omega
      case rel => exact ⟨m + q, by omega, by go_num, by omega, H5.out.1, H5.out.2⟩
    · obtain rfl : m = N := by omega
      have hge : ¬ (m : Int) < (m : Int) := by omega
      have hr := HX.out.2.1
      rw [Nat.sub_self, List.replicate_zero, List.append_nil] at hr
      have HF := Lib.hid (show OwnB 5 wr w.heap.size (.slice (some ⟨w.heap.size, 0, none⟩) m m) (List.replicate m 255) from by
        have := OwnB.whole (Nat.le_refl _) hr (by rw [List.length_replicate]; unfold maxLen; omega)
        rwa [List.length_replicate] at this)
      clear hr
      go_wp2_with fail
      go_ret
      exact ⟨_, rfl, HF.out, HX.out.2.2⟩
end Go.Proofs.Ytlcdabmclcfagaa
