import Derived.Test.YtckpgbkabbddnaaMPut
set_option linter.unusedVariables false
set_option linter.unusedSimpArgs false
/- append of bytes onto bytes of the call's own, beside others. -/
namespace Go.Proofs.Ytckpgbkabbddnaa
open Go.RowKit

/-- A slice's block is there, and none of a value's. -/
def FarIn (w : World) (A : Option Addr) (v : Value) : Prop := ∀ ad, A = some ad → ad.block < w.heap.size ∧ some ad.block ≠ v.ownBlock
theorem FarIn.own {e : TypeId} {w : World} {base : Nat} {A : Option Addr} {n c : Nat} {xs : List UInt8} {v : Value} (h : OwnB e w base (.slice A n c) xs) (hv : ∀ k, v.ownBlock = some k → k < base) : FarIn w A v := by
  intro ad hA
  rcases h with ⟨h1, _⟩ | ⟨g, full, h1, hb, hr, _, _⟩
  · injection h1 with h1
    rw [hA] at h1
    cases h1
  · injection h1 with h1
    rw [hA] at h1
    injection h1 with h1
    subst h1
    refine ⟨hr.lt, fun e => ?_⟩
    have := hv g e.symm
    omega
theorem FarIn.app {w w' : World} {A : Option Addr} {v v' : Value} (h : FarIn w A v) (hs : w.heap.size ≤ w'.heap.size) (hv : v'.ownBlock = v.ownBlock ∨ v'.ownBlock = some w.heap.size) : FarIn w' A v' := by
  intro ad hA
  obtain ⟨h1, h2⟩ := h ad hA
  refine ⟨by omega, ?_⟩
  rcases hv with hv | hv
  · rw [hv]; exact h2
  · rw [hv]
    intro e
    injection e with e
    omega
theorem FarIn.below {w w' : World} {A : Option Addr} {v : Value} (h : FarIn w A v) (hb : Below w.heap.size w w') : FarIn w' A v := fun ad hA => ⟨Nat.lt_of_lt_of_le (h ad hA).1 hb.size, (h ad hA).2⟩
theorem RV.far {w w' : World} {A : Option Addr} {v : Value} {cs : List Value} (h : RV w A cs) (hf : FarIn w A v) (hg : w.grownBy w' v.ownBlock) : RV w' A cs := h.grown hg fun ad e _ => (hf ad e).2
theorem wpList_appB1V {P : Program} (W : World) {ops : Array Oper} {rest : List Oper} {o : Oper} {a : Act} {Q : Exit → Act → World → Prop} (hgd : o.guard = none) (s x : Operand) (t : TypeId)
    (ho : o.op = .call { callee := .builtin .append, args := #[s, x], argTypes := #[t, t] })
    (base : Nat) (e : TypeId) (ht : P.underlying t = some (.slice e)) (hinfo : (P.info? e).map (fun i => (i.zero, i.size, i.bytes)) = some (some (.int .u8 0), 1, 1))
    (v : Value) (xs : List UInt8) (hs : a.eval s = v) (hown : OwnB e W base v xs) (y : Int) (b : UInt8) (H : Nat) (hH : W.heap.size = H) (hx : a.eval x = .slice (some ⟨H, 0, none⟩) 1 1) (hy : y = (b.toNat : Int)) (hsz : xs.length + 1 ≤ 140737488355328) (hbase : base ≤ W.heap.size)
    (h : ∀ v' w', OwnB e w' base v' (xs ++ [b]) → W.grownBy w' v.ownBlock → (v'.ownBlock = v.ownBlock ∨ ∃ k, v'.ownBlock = some k ∧ W.heap.size ≤ k) → wpList P ops Q rest (a.put o.dst v') w') : wpList P ops Q (o :: rest) a (W.alloc (.cells #[.int .u8 y] e)) := by
  subst hH
  refine wpList_appB (W.alloc (.cells #[.int .u8 y] e)) hgd s x t ho base e ht hinfo v xs hs (hown.below ((Below.refl _ _).alloc (Nat.le_refl _) _)) _ 1 1 [b] hx rfl (rv_lit1 W e hy) (by simpa using hsz) (by simp; omega) ?_
  intro v' w' h1 h2 h3
  refine h v' w' h1 (grown_trans (World.grownBy_alloc W _ _) h2) ?_
  rcases h3 with h3 | h3
  · exact .inl h3
  · exact .inr ⟨_, h3, by simp⟩
theorem FarIn.app' {w w' : World} {A : Option Addr} {v v' : Value} (h : FarIn w A v) (hs : w.heap.size ≤ w'.heap.size) (hv : v'.ownBlock = v.ownBlock ∨ ∃ k, v'.ownBlock = some k ∧ w.heap.size ≤ k) : FarIn w' A v' := by
  intro ad hA
  obtain ⟨h1, h2⟩ := h ad hA
  refine ⟨by omega, ?_⟩
  rcases hv with hv | ⟨k, hv, hk⟩
  · rw [hv]; exact h2
  · rw [hv]
    intro e
    injection e with e
    omega
end Go.Proofs.Ytckpgbkabbddnaa
