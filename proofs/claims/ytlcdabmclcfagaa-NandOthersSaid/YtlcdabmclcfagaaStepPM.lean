import Derived.Test.YtlcdabmclcfagaaMRows
set_option linter.unusedVariables false
set_option linter.unusedSimpArgs false
/- One element more, at a step of a region that draws. -/
namespace Go.Proofs.Ytlcdabmclcfagaa
open Go.RowKit

section
variable {α : Type} {cell : α → Value → List Value} {val : α → List UInt8} {ok : α → Prop} {sz : Nat}
theorem step_appP1 {P : Program} (W : World) {ops : Array Oper} {o : Oper} {a' : Act} {K : Act → World → Prop} {Q : Exit → Act → World → Prop} {E : Prop} (hgd : o.guard = none) (s x : Operand) (t : TypeId)
    (hop : o.op = .call { callee := .builtin .append, args := #[s, x], argTypes := #[t, t] })
    (base : Nat) (e : TypeId) (i : TypeInfo) (z : Value) (bytes : Nat) (ht : P.underlying t = some (.slice e)) (hi : P.info? e = some i) (hz : i.zero = some z)
    (hsize : i.size = sz) (hby : i.bytes = bytes) (hzs : z.cells.size = sz) (h0 : 0 < sz) (hsz : ∀ a v, (cell a v).length = sz) (hone : ∀ a A n c, ∀ u ∈ cell a (.slice A n c), u.oneCell' = true)
    (v : Value) (n : Nat) (ps : List (α × Value)) (hs : a'.eval s = v) (hown : OwnPs cell val ok sz e W base v n ps) (a : α) (u : Value) (hx : a'.eval x = .slice (some ⟨W.heap.size, 0, none⟩) 1 1) (hok : ok a) (hu : ValB W v.ownBlock u (val a)) (cs : Array Value) (hcs : cs = (cell a u).toArray)
    (h63 : n + 1 ≤ maxLen) (hbytes : ((n + 1) + (n + 1) / 4 + 192) * bytes ≤ 281474976710656) (hbase : base ≤ W.heap.size)
    (h : ∀ v' w', OwnPs cell val ok sz e w' base v' (n + 1) (ps ++ [(a, u)]) → W.grownBy w' v.ownBlock → (v'.ownBlock = v.ownBlock ∨ ∃ k, v'.ownBlock = some k ∧ W.heap.size ≤ k) → K (a'.put o.dst v') w') :
    if Region.wanted o (yielded ops a'.tmps) = true then Oper.wp P o a' (W.alloc (.cells cs e)) K Q else E := by
  have hw : Region.wanted o (yielded ops a'.tmps) = true := by simp [Region.wanted, hgd]
  rw [if_pos hw]
  obtain ⟨v', w', hrun, h2, h3, h4⟩ := run_appP1 (P := P) W base t o.type e i z bytes ht hi hz hsize hby hzs h0 hsz hone v n ps hown a u hok hu cs hcs h63 hbytes hbase
  unfold Oper.wp execOp
  simp only [hop, resolve, invoke, builtin, Sem.run_bind, Sem.run_pure, Result.andThen_ok, List.map_toArray, List.map_cons, List.map_nil, hs, hx, hrun]
  exact h v' w' h2 h3 h4
end
end Go.Proofs.Ytlcdabmclcfagaa
