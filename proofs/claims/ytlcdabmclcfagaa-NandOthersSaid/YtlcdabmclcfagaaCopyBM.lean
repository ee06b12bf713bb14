import Derived.Test.YtlcdabmclcfagaaAppM
import Derived.Test.YtlcdabmclcfagaaMBase
set_option linter.unusedVariables false
set_option linter.unusedSimpArgs false
/- copy into a row of bytes. -/
namespace Go.Proofs.Ytlcdabmclcfagaa
open Go.RowKit

/-! ### copy into a row of bytes -/
theorem wpList_copyB {P : Program} {w : World} {ops : Array Oper} {rest : List Oper} {o : Oper} {a : Act} {Q : Exit → Act → World → Prop} (hgd : o.guard = none) (d s : Operand) (T : TypeId)
    (ho : o.op = .call { callee := .builtin .copy, args := #[d, s], argTypes := #[T, T] }) (e : TypeId) (hu : P.underlying T = some (.slice e)) (hinfo : (P.info? e).map (fun i => (i.zero, i.size, i.bytes)) = some (some (.int .u8 0), 1, 1))
    (g off dLen dCap m c : Nat) (A : Option Addr) (hd : a.eval d = .slice (some ⟨g, off, none⟩) dLen dCap) (hs : a.eval s = .slice A m c) (full : List UInt8) (hrow : RowB e w g full) (ys : List UInt8) (hm : ys.length = m) (hr : RV w A (bv ys))
    (hle : m ≤ dLen) (hfit : off + m ≤ full.length) (B : Nat) (w0 : World) (hb : Below B w0 w) (hBg : B ≤ g)
    (h : ∀ w', RowB e w' g (full.take off ++ (ys ++ full.drop (off + m))) → Below B w0 w' → wpList P ops Q rest (a.put o.dst (goInt m)) w') : wpList P ops Q (o :: rest) a w := by
  obtain ⟨i, hi, _, hz1, _⟩ := app_info hinfo
  refine wpList_copy_splice hgd d s T T ho e hu (by rw [hi]; simp [hz1]) (some ⟨g, off, none⟩) A dLen dCap m c hd hs g off (bv full) e hrow (bv ys) (by rw [bv_length, hm]; exact (Nat.min_eq_left hle).symm) ?_ (by rw [bv_length, bv_length, hm]; exact hfit) (bv_oneCell ys) B w0 hb hBg ?_
  · intro hp
    obtain ⟨ad, hA, hc⟩ := hr hp
    exact ⟨rfl, ad, hA, hc⟩
  · intro w' hg' hb'
    rw [bv_length, hm]
    refine h w' ?_ hb'
    have h1 : w'.heap[g]? = some (.cells (splice (bv full) off (bv ys)).toArray e (0, 0)) := hg'.out
    unfold RowB
    rw [h1, bv_append, bv_append, bv_take, bv_drop]
    unfold splice
    rw [bv_length, hm]

theorem RowB.rvAt {e : TypeId} {w : World} {g : Nat} {full : List UInt8} (h : RowB e w g full) (k : Nat) : RV w (some ⟨g, k, none⟩) (bv (full.drop k)) := by
  have := h.rv.drop k
  rw [bv_drop]
  simpa [add_lit0] using this

end Go.Proofs.Ytlcdabmclcfagaa
