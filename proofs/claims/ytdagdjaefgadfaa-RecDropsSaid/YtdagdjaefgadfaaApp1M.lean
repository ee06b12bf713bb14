import Derived.Test.YtdagdjaefgadfaaAppM
import Derived.Test.YtdagdjaefgadfaaMBase
set_option linter.unusedVariables false
set_option linter.unusedSimpArgs false
/- One more byte behind a slice of the call's own. -/
namespace Go.Proofs.Ytdagdjaefgadfaa
open Go.RowKit

theorem rv_lit1 (w : World) (e : TypeId) {y : Int} {b : UInt8} (hy : y = (b.toNat : Int)) : RV (w.alloc (.cells #[.int .u8 y] e)) (some ⟨w.heap.size, 0, none⟩) (bv [b]) := by
  subst hy
  have h := RowB.new w e [b]
  have e1 : (bv [b]).toArray = #[.int .u8 (b.toNat : Int)] := by simp [bv]
  rw [e1] at h
  exact h.rv
theorem wpList_appB1 {P : Program} (W : World) {ops : Array Oper} {rest : List Oper} {o : Oper} {a : Act} {Q : Exit → Act → World → Prop} (hgd : o.guard = none) (s x : Operand) (t : TypeId)
    (ho : o.op = .call { callee := .builtin .append, args := #[s, x], argTypes := #[t, t] })
    (base : Nat) (e : TypeId) (ht : P.underlying t = some (.slice e)) (hinfo : (P.info? e).map (fun i => (i.zero, i.size, i.bytes)) = some (some (.int .u8 0), 1, 1))
    (v : Value) (xs : List UInt8) (hs : a.eval s = v) (hown : OwnB e W base v xs) (y : Int) (b : UInt8) (hx : a.eval x = .slice (some ⟨W.heap.size, 0, none⟩) 1 1) (hy : y = (b.toNat : Int)) (hsz : xs.length + 1 ≤ 140737488355328) (hbase : base ≤ W.heap.size)
    (h : ∀ v' w', OwnB e w' base v' (xs ++ [b]) → W.grownBy w' v.ownBlock → wpList P ops Q rest (a.put o.dst v') w') : wpList P ops Q (o :: rest) a (W.alloc (.cells #[.int .u8 y] e)) := by
  refine wpList_appB (W.alloc (.cells #[.int .u8 y] e)) hgd s x t ho base e ht hinfo v xs hs (hown.below ((Below.refl _ _).alloc (Nat.le_refl _) _)) _ 1 1 [b] hx rfl (rv_lit1 W e hy) (by simpa using hsz) (by simp; omega) ?_
  intro v' w' h1 h2 _
  exact h v' w' h1 (grown_trans (World.grownBy_alloc W _ _) h2)
/-- A literal of bytes, as a slice of the call's own. -/
theorem own_lit (w : World) (e : TypeId) (l : List UInt8) (cs : Array Value) (h : (bv l).toArray = cs) (n : Nat) (hn : l.length = n) (hm : n ≤ maxLen) : OwnB e (w.alloc (.cells cs e)) w.heap.size (.slice (some ⟨w.heap.size, 0, none⟩) n n) l := by
  subst h hn
  exact OwnB.whole (Nat.le_refl _) (RowB.new w e l) hm
end Go.Proofs.Ytdagdjaefgadfaa
