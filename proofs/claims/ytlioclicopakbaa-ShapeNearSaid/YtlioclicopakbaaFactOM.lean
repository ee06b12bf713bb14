import Derived.StillTailTactics
import Derived.Test.YtlioclicopakbaaMPlain
import Derived.Test.YtlioclicopakbaaKeyEM
set_option linter.unusedVariables false
set_option linter.unusedSimpArgs false
/- The document's Ordered: contract. -/
namespace Go.Proofs.Ytlioclicopakbaa
open Go.RowKit

set_option maxRecDepth 100000 in
set_option maxHeartbeats 1000000 in
theorem dOrdered_any (w : World) (A : Option Addr) (n d : Nat) (l : List Fct) (h : FctsIn w A n l) (hn : n ≤ 140737488355328) :
    Calls Try.prog 38 #[.slice A n d] w fun e w' => e = .returned (.bool (ordB l)) ∧ Below w.heap.size w w' := by
  obtain ⟨r, hr⟩ : ∃ r, ordB l = r := ⟨_, rfl⟩
  have H := Lib.hid (And.intro h (And.intro h.1 hr))
  rw [hr]
  clear h hr
  go_enter Try.func38, Try.ntmps38
  go_wp2_with fail
  go_loopg [3] n (fun k i wr => ∃ m : Nat, m + k = n + 1 ∧ 1 ≤ m ∧ i = .int .i64 m ∧ Below w.heap.size w wr ∧ ∀ i a b, i + 1 < m → l[i]? = some a → l[i + 1]? = some b → keyLt a.key b.key)
  case atStart => exact ⟨1, by omega, Nat.le_refl _, rfl, Below.refl _ _, fun i a b h => by omega⟩
  case round =>
    obtain ⟨m, hk, hm1, rfl, hb, hall⟩ := hrel
    have HX := Lib.hid (And.intro hk (And.intro hb hall))
    clear hk hb hall
    by_cases hlt : m < n
    · obtain ⟨j, hj⟩ : ∃ j, m = j + 1 := ⟨m - 1, by omega⟩
      obtain ⟨x, hx⟩ : ∃ x, l[j]? = some x := ⟨_, List.getElem?_eq_getElem (by have := H.out.2.1; omega)⟩
      obtain ⟨y, hy⟩ : ∃ y, l[m]? = some y := ⟨_, List.getElem?_eq_getElem (by have := H.out.2.1; omega)⟩
      obtain ⟨okx, ad, B1, d1, hA, _, _, _, hblk, x0, x1, x2, x3, x4⟩ := FctsIn.at_ H.out.1 hx
      obtain ⟨oky, ad', B2, d2, hA', _, _, _, hblk', y0, y1, y2, y3, y4⟩ := FctsIn.at_ H.out.1 hy
      rw [hA] at hA'
      injection hA' with hA'
      subst hA'
      subst hA
      have up : ∀ {p : Addr} {u : Value}, w.cell? p = some u → p.block < w.heap.size → wr.cell? p = some u := fun hu hp => (World.cell?_of_block (HX.out.2.1.block _ hp)).trans hu
      have p0 := up x0 hblk
      have p1 := up x1 hblk
      have p2 := up x2 hblk
      have p3 := up x3 hblk
      have q0 := up y0 hblk'
      have q1 := up y1 hblk'
      have q2 := up y2 hblk'
      have q3 := up y3 hblk'
      have hw : IntKind.i64.wrap ((m : Int) - 1) = (j : Int) := by rw [hj]; exact (IntWalk.i64_in _ (by omega)).trans (by omega)
      have hjn : (j : Int) < (n : Int) := by omega
      have hmn : (m : Int) < (n : Int) := by omega
      have HB := Lib.hid (fun w => dBefore_any w x.key y.key okx oky)
      have HV := Lib.hid (And.intro hx (And.intro hy hj))
      clear x0 x1 x2 x3 x4 y0 y1 y2 y3 y4 up hx hy okx oky hj
      obtain ⟨⟨xi, xa, xs, xc⟩, xv⟩ := x
      obtain ⟨⟨yi, ya, ys, yc⟩, yv⟩ := y
      unfold Ky.val at HB
      dsimp only at HB p0 p1 p2 p3 q0 q1 q2 q3
      go_wp2_with fail
      refine wp_region_still_tail 11 (by kernel_rfl) (by kernel_rfl) ?_
      simp only [List.take_succ_cons, List.take_zero, List.drop_succ_cons, List.drop_zero]
      repeat still_step
      refine wpStill_nil ?_
      change wpList _ _ _ _ _ wr.drew
      have hbd : Below w.heap.size w wr.drew := HX.out.2.1.drew
      have HD := Lib.hid hbd
      clear hbd p0 p1 p2 p3 q0 q1 q2 q3
      generalize wr.drew = w2 at *
      go_wp2_with fail
      refine (HB.out w2).mono ?_
      rintro e w3 ⟨rfl, hb3⟩
      have H3 := Lib.hid (below_then HD.out HD.out.size hb3)
      clear hb3
      by_cases hlt' : keyLt ⟨xi, xa, xs, xc⟩ ⟨yi, ya, ys, yc⟩
      · have hal : ∀ i a b, i + 1 < m + 1 → l[i]? = some a → l[i + 1]? = some b → keyLt a.key b.key := by
          intro i a b hi ha hb
          rcases Nat.lt_or_ge (i + 1) m with h | h
          · exact HX.out.2.2 i a b h ha hb
          · obtain rfl : i = j := by have := HV.out.2.2; omega
            rw [HV.out.1] at ha
            have e2 := HV.out.2.1
            rw [HV.out.2.2] at e2
            rw [e2] at hb
            cases ha
            cases hb
            exact hlt'
        have HL := Lib.hid hal
        rw [decide_eq_true hlt']
        clear hal hlt'
        go_wp2_with fail
        go_roundg (n - m)
        case measure => have := HX.out.1; omega
        case rel => exact ⟨m + 1, by have := HX.out.1; omega, by omega, by go_num, H3.out, HL.out⟩
      · have hr : false = r := by
          rw [← H.out.2.2]
          refine (Bool.eq_false_iff.2 fun hh => hlt' ?_).symm
          exact (ordB_iff l).1 hh j _ _ HV.out.1 (by rw [← HV.out.2.2]; exact HV.out.2.1)
        have HRR := Lib.hid hr
        rw [decide_eq_false hlt']
        clear hr hlt'
        go_wp2_with fail
        go_ret
        exact ⟨ret_bool HRR.out, H3.out⟩
    · have hr : true = r := by
        rw [← H.out.2.2]
        refine ((ordB_iff l).2 fun i a b ha hb => HX.out.2.2 i a b ?_ ha hb).symm
        have h1 := (List.getElem?_eq_some_iff.1 hb).1
        have h2 := H.out.2.1
        omega
      have HRR := Lib.hid hr
      have hge : ¬ (m : Int) < (n : Int) := by omega
      clear hr
      go_wp2_with fail
      go_ret
      exact ⟨ret_bool HRR.out, HX.out.2.1⟩
end Go.Proofs.Ytlioclicopakbaa
