import Derived.Test.YtlioclicopakbaaKeyIM
set_option linter.unusedVariables false
set_option linter.unusedSimpArgs false
/- Two rows of the call's own that grow side by side. -/
namespace Go.Proofs.Ytlioclicopakbaa
open Go.RowKit

/-- Two values lie in blocks of their own. -/
def Apart (u v : Value) : Prop := v.ownBlock = none ∨ v.ownBlock ≠ u.ownBlock
theorem Apart.symm {u v : Value} (h : Apart u v) : Apart v u := by
  unfold Apart at *
  rcases h with h | h
  · cases hu : u.ownBlock with
    | none => exact .inl rfl
    | some k => exact .inr (by rw [h]; simp)
  · exact .inr (Ne.symm h)
theorem Apart.nil (v : Value) : Apart v (.slice none 0 0) := .inl rfl
/-- One of them is a new row now. -/
theorem Apart.new {w : World} {u u' v : Value} (h : Apart u v) (hu : u'.ownBlock = u.ownBlock ∨ ∃ k, u'.ownBlock = some k ∧ w.heap.size ≤ k) (hv : ∀ k, v.ownBlock = some k → k < w.heap.size) : Apart u' v := by
  unfold Apart at *
  rcases hu with hu | ⟨k, hu, hk⟩
  · rw [hu]; exact h
  · cases hvb : v.ownBlock with
    | none => exact .inl rfl
    | some j =>
      refine .inr ?_
      rw [hu]
      intro e
      injection e with e
      have := hv j hvb
      omega
theorem OwnY.kept {w w' : World} {base : Nat} {v : Value} {n : Nat} {l : List Ky} {row : Option Nat} (h : OwnY w base v n l) (hg : w.grownBy w' row) (hne : v.ownBlock = none ∨ v.ownBlock ≠ row) : OwnY w' base v n l := by
  obtain ⟨ps, h1, h2, h3, h4⟩ := h
  refine ⟨ps, h1, h2, h3.kept hg hne, fun p hp => ⟨(h4 p hp).1, ?_⟩⟩
  obtain ⟨A, c, e1, hr, l1, l2, l3⟩ := (h4 p hp).2
  exact ⟨A, c, e1, RV.nil _ _, l1, l2, l3⟩
theorem run_appIV {P : Program} (W : World) (base : Nat) (t ty e : TypeId) (i : TypeInfo) (z : Value) (ht : P.underlying t = some (.slice e)) (hi : P.info? e = some i) (hz : i.zero = some z)
    (hsize : i.size = 1) (hby : i.bytes = 8) (hzs : z.cells.size = 1) (v : Value) (xs : List Nat) (hown : OwnI e W base v xs) (k : Nat)
    (h63 : xs.length ≤ 17592186044416) (hbase : base ≤ W.heap.size) :
    ∃ v' w', (Builtin.append_ #[t, t] ty #[v, .slice (some ⟨W.heap.size, 0, none⟩) 1 1]).run P (W.alloc (.cells #[.int .i64 (k : Int)] e)) = .ok v' w' ∧ OwnI e w' base v' (xs ++ [k]) ∧ W.grownBy w' v.ownBlock ∧
      (v'.ownBlock = v.ownBlock ∨ ∃ k, v'.ownBlock = some k ∧ W.heap.size ≤ k) := by
  have hnews : ∀ j x, [Value.int .i64 (k : Int)][j]? = some x → (W.alloc (.cells #[.int .i64 (k : Int)] e)).cell? ((⟨W.heap.size, 0, none⟩ : Addr).add j) = some x := by
    intro j x hx
    rw [add_lit0, (Blk.new W e #[.int .i64 (k : Int)]).cell]
    simpa using hx
  obtain ⟨v', w', hrun, h2, h3, h4⟩ := run_appV (P := P) (W.alloc (.cells #[.int .i64 (k : Int)] e)) base t ty e i z 1 8 ht hi hz hsize hby hzs (by decide) v xs.length _ (World.ownsRow.alloc hown _) _ 1 1 [.int .i64 (k : Int)] rfl hnews
    (by intro u hu; rw [List.mem_singleton] at hu; subst hu; rfl) (by unfold maxLen; omega) (by omega) (by rw [show (W.alloc (.cells #[.int .i64 (k : Int)] e)).heap.size = W.heap.size + 1 by simp]; omega)
  refine ⟨v', w', hrun, ?_, grown_trans (World.grownBy_alloc W _ _) h3, ?_⟩
  · unfold OwnI
    rw [List.length_append]
    simpa [iv] using h2
  · rcases h4 with h4 | h4
    · exact .inl h4
    · exact .inr ⟨_, h4, by simp⟩
theorem wpList_appIV {P : Program} (W : World) {ops : Array Oper} {rest : List Oper} {o : Oper} {a' : Act} {Q : Exit → Act → World → Prop} (hgd : o.guard = none) (s x : Operand) (t : TypeId)
    (hop : o.op = .call { callee := .builtin .append, args := #[s, x], argTypes := #[t, t] })
    (base : Nat) (e : TypeId) (i : TypeInfo) (z : Value) (ht : P.underlying t = some (.slice e)) (hi : P.info? e = some i) (hz : i.zero = some z)
    (hsize : i.size = 1) (hby : i.bytes = 8) (hzs : z.cells.size = 1) (v : Value) (xs : List Nat) (hs : a'.eval s = v) (hown : OwnI e W base v xs) (k : Nat) (H : Nat) (hH : W.heap.size = H) (hx : a'.eval x = .slice (some ⟨H, 0, none⟩) 1 1)
    (h63 : xs.length ≤ 17592186044416) (hbase : base ≤ W.heap.size)
    (h : ∀ v' w', OwnI e w' base v' (xs ++ [k]) → W.grownBy w' v.ownBlock → (v'.ownBlock = v.ownBlock ∨ ∃ k, v'.ownBlock = some k ∧ W.heap.size ≤ k) → wpList P ops Q rest (a'.put o.dst v') w') :
    wpList P ops Q (o :: rest) a' (W.alloc (.cells #[.int .i64 (k : Int)] e)) := by
  subst hH
  refine wpList_plain hgd fun _ hK => ?_
  obtain ⟨v', w', hrun, h2, h3, h4⟩ := run_appIV (P := P) W base t o.type e i z ht hi hz hsize hby hzs v xs hown k h63 hbase
  unfold Oper.wp execOp
  simp only [hop, resolve, invoke, builtin, Sem.run_bind, Sem.run_pure, Result.andThen_ok, List.map_toArray, List.map_cons, List.map_nil, hs, hx, hrun]
  exact hK _ _ (h v' w' h2 h3 h4)
end Go.Proofs.Ytlioclicopakbaa
