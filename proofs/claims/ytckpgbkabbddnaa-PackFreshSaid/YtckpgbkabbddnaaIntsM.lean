import Derived.Test.YtckpgbkabbddnaaMRows
import Derived.Test.YtckpgbkabbddnaaMApp
set_option linter.unusedVariables false
set_option linter.unusedSimpArgs false
/- Rows of numbers of the call's own: append of one. -/
namespace Go.Proofs.Ytckpgbkabbddnaa
open Go.RowKit

def iv (xs : List Nat) : List Value := xs.map fun (k : Nat) => .int .i64 (k : Int)
theorem iv_length (xs : List Nat) : (iv xs).length = xs.length := by simp [iv]
def OwnI (e : TypeId) (w : World) (base : Nat) (v : Value) (xs : List Nat) : Prop := w.ownsRow base e 1 v xs.length (iv xs)
theorem OwnI.nil (e : TypeId) (w : World) (base : Nat) : OwnI e w base (.slice none 0 0) [] := World.ownsRow_nil w base e 1
theorem OwnI.blk {e : TypeId} {w : World} {base : Nat} {v : Value} {xs : List Nat} (h : OwnI e w base v xs) {k : Nat} (hk : v.ownBlock = some k) : base ≤ k ∧ k < w.heap.size := World.ownsRow.lt h k hk
theorem OwnI.below {e : TypeId} {w w' : World} {base : Nat} {v : Value} {xs : List Nat} (h : OwnI e w base v xs) (hb : Below w.heap.size w w') : OwnI e w' base v xs :=
  World.ownsRow.kept h (grown_of_below hb none) (by cases v.ownBlock with | none => exact .inl rfl | some k => exact .inr (by simp))
theorem OwnI.kept {e : TypeId} {w w' : World} {base : Nat} {v : Value} {xs : List Nat} {row : Option Nat} (h : OwnI e w base v xs) (hg : w.grownBy w' row) (hne : v.ownBlock = none ∨ v.ownBlock ≠ row) : OwnI e w' base v xs :=
  World.ownsRow.kept h hg hne
theorem OwnI.lower {e : TypeId} {w : World} {base b : Nat} {v : Value} {xs : List Nat} (h : OwnI e w base v xs) (hb : b ≤ base) : OwnI e w b v xs := by
  refine ⟨h.1, ?_⟩
  rcases h.2 with h | ⟨g, cap, cur, e1, e2, e3⟩
  · exact .inl h
  · exact .inr ⟨g, cap, cur, e1, Nat.le_trans hb e2, e3⟩
theorem OwnI.slice {e : TypeId} {w : World} {base : Nat} {v : Value} {xs : List Nat} (h : OwnI e w base v xs) : ∃ A c, v = .slice A xs.length c ∧ RV w A (iv xs) ∧ xs.length ≤ c ∧ c ≤ maxLen := by
  rcases h.2 with ⟨hv, h0⟩ | ⟨g, cap, cur, hv, hb, hg, hnc, hcm, hcs, htake⟩
  · have hx : xs = [] := List.eq_nil_of_length_eq_zero h0
    subst hx
    exact ⟨none, 0, hv, RV.nil _ _, Nat.zero_le _, by decide⟩
  · refine ⟨some ⟨g, 0, none⟩, cap, hv, fun _ => ⟨_, rfl, fun j u hu => ?_⟩, hnc, hcm⟩
    exact World.ownsRow.cells (g := g) h (by rw [hv]; rfl) _ _ hu
theorem run_appI {P : Program} (W : World) (base : Nat) (t ty e : TypeId) (i : TypeInfo) (z : Value) (ht : P.underlying t = some (.slice e)) (hi : P.info? e = some i) (hz : i.zero = some z)
    (hsize : i.size = 1) (hby : i.bytes = 8) (hzs : z.cells.size = 1) (v : Value) (xs : List Nat) (hown : OwnI e W base v xs) (k : Nat)
    (h63 : xs.length ≤ 17592186044416) (hbase : base ≤ W.heap.size) :
    ∃ v' w', (Builtin.append_ #[t, t] ty #[v, .slice (some ⟨W.heap.size, 0, none⟩) 1 1]).run P (W.alloc (.cells #[.int .i64 (k : Int)] e)) = .ok v' w' ∧ OwnI e w' base v' (xs ++ [k]) ∧ W.grownBy w' v.ownBlock := by
  have hnews : ∀ j x, [Value.int .i64 (k : Int)][j]? = some x → (W.alloc (.cells #[.int .i64 (k : Int)] e)).cell? ((⟨W.heap.size, 0, none⟩ : Addr).add j) = some x := by
    intro j x hx
    rw [add_lit0, (Blk.new W e #[.int .i64 (k : Int)]).cell]
    simpa using hx
  obtain ⟨v', w', hrun, h2, h3, h4⟩ := run_appV (P := P) (W.alloc (.cells #[.int .i64 (k : Int)] e)) base t ty e i z 1 8 ht hi hz hsize hby hzs (by decide) v xs.length _ (World.ownsRow.alloc hown _) _ 1 1 [.int .i64 (k : Int)] rfl hnews
    (by intro u hu; rw [List.mem_singleton] at hu; subst hu; rfl) (by unfold maxLen; omega) (by omega) (by rw [show (W.alloc (.cells #[.int .i64 (k : Int)] e)).heap.size = W.heap.size + 1 by simp]; omega)
  refine ⟨v', w', hrun, ?_, grown_trans (World.grownBy_alloc W _ _) h3⟩
  unfold OwnI
  rw [List.length_append]
  simpa [iv] using h2
theorem wpList_appI {P : Program} (W : World) {ops : Array Oper} {rest : List Oper} {o : Oper} {a' : Act} {Q : Exit → Act → World → Prop} (hgd : o.guard = none) (s x : Operand) (t : TypeId)
    (hop : o.op = .call { callee := .builtin .append, args := #[s, x], argTypes := #[t, t] })
    (base : Nat) (e : TypeId) (i : TypeInfo) (z : Value) (ht : P.underlying t = some (.slice e)) (hi : P.info? e = some i) (hz : i.zero = some z)
    (hsize : i.size = 1) (hby : i.bytes = 8) (hzs : z.cells.size = 1) (v : Value) (xs : List Nat) (hs : a'.eval s = v) (hown : OwnI e W base v xs) (k : Nat) (H : Nat) (hH : W.heap.size = H) (hx : a'.eval x = .slice (some ⟨H, 0, none⟩) 1 1)
    (h63 : xs.length ≤ 17592186044416) (hbase : base ≤ W.heap.size)
    (h : ∀ v' w', OwnI e w' base v' (xs ++ [k]) → W.grownBy w' v.ownBlock → wpList P ops Q rest (a'.put o.dst v') w') :
    wpList P ops Q (o :: rest) a' (W.alloc (.cells #[.int .i64 (k : Int)] e)) := by
  subst hH
  refine wpList_plain hgd fun _ hK => ?_
  obtain ⟨v', w', hrun, h2, h3⟩ := run_appI (P := P) W base t o.type e i z ht hi hz hsize hby hzs v xs hown k h63 hbase
  unfold Oper.wp execOp
  simp only [hop, resolve, invoke, builtin, Sem.run_bind, Sem.run_pure, Result.andThen_ok, List.map_toArray, List.map_cons, List.map_nil, hs, hx, hrun]
  exact hK _ _ (h v' w' h2 h3)
theorem int_info : (Try.prog.info? 3).map (fun i => (i.zero.map (·.cells.size), i.size, i.bytes)) = some (some 1, 1, 8) := by kernel_rfl
theorem int_info' : ∃ i z, Try.prog.info? 3 = some i ∧ i.zero = some z ∧ i.size = 1 ∧ i.bytes = 8 ∧ z.cells.size = 1 := by
  obtain ⟨i, hi, he⟩ := Option.map_eq_some_iff.1 int_info
  simp only [Prod.mk.injEq] at he
  obtain ⟨z, hz, hz5⟩ := Option.map_eq_some_iff.1 he.1
  exact ⟨i, z, hi, hz, he.2.1, he.2.2, hz5⟩
end Go.Proofs.Ytckpgbkabbddnaa
