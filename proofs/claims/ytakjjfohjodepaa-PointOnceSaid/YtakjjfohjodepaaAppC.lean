/- append onto bytes that have no room behind them (b[:n:n]), whoever they belong to: what is answered is known, and nothing elder has changed. -/
import Derived.Test.YtakjjfohjodepaaApp
import Derived.Test.YtakjjfohjodepaaFrame
set_option linter.unusedVariables false
set_option linter.unusedSimpArgs false
namespace Go.Proofs.Ytakjjfohjodepaa
open Go.RowKit

def AppC (w : World) (n m : Nat) (l : List UInt8) (v' : Value) (w' : World) : Prop :=
  ∃ A' c', v' = .slice A' (n + m) c' ∧ RV w' A' (bv l) ∧ n + m ≤ c' ∧ c' ≤ maxLen ∧ Below w.heap.size w w'

theorem run_appC {P : Program} (w : World) (t ty e : TypeId) (ht : P.underlying t = some (.slice e)) (hinfo : (P.info? e).map (fun i => (i.zero, i.size, i.bytes)) = some (some (.int .u8 0), 1, 1))
    (ad : Addr) (n : Nat) (xs : List UInt8) (hx : xs.length = n) (hrx : RV w (some ad) (bv xs)) (A : Option Addr) (m c : Nat) (ys : List UInt8) (hm : ys.length = m) (hr : RV w A (bv ys)) (hsz : n + m ≤ 140737488355328) :
    ∃ v' w', (Builtin.append_ #[t, t] ty #[.slice (some ad) n n, .slice A m c]).run P w = .ok v' w' ∧ AppC w n m (xs ++ ys) v' w' := by
  obtain ⟨i, hi, hz0, hz1, hz2⟩ := app_info hinfo
  subst hm hx
  have hcz : (Value.int IntKind.u8 0).cells = #[.int .u8 0] := rfl
  have hmax : xs.length ≤ maxLen := by unfold maxLen; omega
  by_cases h0 : ys.length = 0
  · obtain rfl : ys = [] := List.eq_nil_of_length_eq_zero h0
    refine ⟨.slice (some ad) xs.length xs.length, w, ?_, some ad, xs.length, rfl, by simpa using hrx, by simp, hmax, Below.refl _ _⟩
    cases A <;> simp [Builtin.append_, run_underlying ht, sizeOf, typeInfo, hi, Builtin.lenOf, Builtin.firstCells, loadCells, loadCellsFrom, storeCells]
  · obtain ⟨ad2, rfl, hcells⟩ := hr (by rw [bv_length]; omega)
    have hly : (bv ys).length = ys.length * i.size := by rw [bv_length, hz1, Nat.mul_one]
    have holds : ∀ j u, (bv xs)[j]? = some u → w.cell? (ad.add j) = some u := by
      intro j u hu
      obtain ⟨ad', h, hc⟩ := hrx (by have := (List.getElem?_eq_some_iff.1 hu).1; omega)
      injection h with h
      subst h
      exact hc j u hu
    have hrun := run_append_grow (P := P) w t ty e i _ ht hi hz0 ad xs.length xs.length (bv xs) (by rw [bv_length, hz1, Nat.mul_one]) holds ad2 ys.length c (bv ys) hly hcells (by omega) (by omega) (growslice_fits (by omega) (by rw [hz2]; omega))
    rw [hcz] at hrun
    have hge := grownCap_ge w (xs.length + ys.length) xs.length e
    have hle := grownCap_le_maxLen w (xs.length + ys.length) xs.length e (by unfold maxLen; omega)
    refine ⟨_, _, hrun, _, _, rfl, ?_, hge, hle, ((Below.refl _ _).drew).alloc (Nat.le_refl _) _⟩
    have hc : (bv xs).toArray ++ (bv ys).toArray ++ Builtin.zeroCells #[.int .u8 0] (grownCap w (xs.length + ys.length) xs.length e - (xs.length + ys.length)) = (bv (xs ++ ys ++ List.replicate (grownCap w (xs.length + ys.length) xs.length e - (xs.length + ys.length)) 0)).toArray := by
      apply Array.toList_inj.1
      simp only [Array.toList_append, bv_append, zeroCells_byte]
    rw [hc]
    have hrow := (RowB.new w.drew e (xs ++ ys ++ List.replicate (grownCap w (xs.length + ys.length) xs.length e - (xs.length + ys.length)) 0)).rv.take (xs ++ ys).length
    rwa [← bv_take, List.take_left] at hrow

theorem wpList_appC {P : Program} (w : World) {ops : Array Oper} {rest : List Oper} {o : Oper} {a : Act} {Q : Exit → Act → World → Prop} (hgd : o.guard = none) (s x : Operand) (t : TypeId)
    (ho : o.op = .call { callee := .builtin .append, args := #[s, x], argTypes := #[t, t] })
    (e : TypeId) (ht : P.underlying t = some (.slice e)) (hinfo : (P.info? e).map (fun i => (i.zero, i.size, i.bytes)) = some (some (.int .u8 0), 1, 1))
    (ad : Addr) (n : Nat) (xs : List UInt8) (hs : a.eval s = .slice (some ad) n n) (hxn : xs.length = n) (hrx : RV w (some ad) (bv xs)) (A : Option Addr) (m c : Nat) (ys : List UInt8) (hx : a.eval x = .slice A m c) (hm : ys.length = m) (hr : RV w A (bv ys)) (hsz : n + m ≤ 140737488355328)
    (h : ∀ v' w', AppC w n m (xs ++ ys) v' w' → wpList P ops Q rest (a.put o.dst v') w') : wpList P ops Q (o :: rest) a w := by
  refine wpList_plain hgd fun _ hK => ?_
  obtain ⟨v', w', hrun, h2⟩ := run_appC (P := P) w t o.type e ht hinfo ad n xs hxn hrx A m c ys hm hr hsz
  unfold Oper.wp execOp
  simp only [ho, resolve, invoke, builtin, Sem.run_bind, Sem.run_pure, Result.andThen_ok, List.map_toArray, List.map_cons, List.map_nil, hs, hx, hrun]
  exact hK _ _ (h v' w' h2)
end Go.Proofs.Ytakjjfohjodepaa
