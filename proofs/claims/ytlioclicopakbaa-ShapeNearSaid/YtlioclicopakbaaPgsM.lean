import Derived.Test.YtlioclicopakbaaFactAM
set_option linter.unusedVariables false
set_option linter.unusedSimpArgs false
/- Rows of bytes of the call's own; parts of lists. -/
namespace Go.Proofs.Ytlioclicopakbaa
open Go.RowKit

def pgCells (l : List UInt8) (v : Value) : List Value := [v]
def pgOk (l : List UInt8) : Prop := True
abbrev PgsIn (w : World) (A : Option Addr) (n : Nat) (l : List (List UInt8)) : Prop := ListIn pgCells id pgOk 1 w A n l
abbrev OwnR (w : World) (base : Nat) (v : Value) (n : Nat) (l : List (List UInt8)) : Prop := OwnL pgCells id pgOk 1 37 w base v n l
theorem pg_len (c : List UInt8) (v : Value) : (pgCells c v).length = 1 := rfl
theorem pg_one (c : List UInt8) (A : Option Addr) (n d : Nat) : ∀ u ∈ pgCells c (.slice A n d), u.oneCell' = true := by
  intro u hu
  simp only [pgCells, List.mem_cons, List.not_mem_nil, or_false] at hu
  subst hu
  rfl
theorem pg_info : (Try.prog.info? 37).map (fun i => (i.zero.map (·.cells.size), i.size, i.bytes)) = some (some 1, 1, 24) := by kernel_rfl
theorem pg_info' : ∃ i z, Try.prog.info? 37 = some i ∧ i.zero = some z ∧ i.size = 1 ∧ i.bytes = 24 ∧ z.cells.size = 1 := by
  obtain ⟨i, hi, he⟩ := Option.map_eq_some_iff.1 pg_info
  simp only [Prod.mk.injEq] at he
  obtain ⟨z, hz, hz5⟩ := Option.map_eq_some_iff.1 he.1
  exact ⟨i, z, hi, hz, he.2.1, he.2.2, hz5⟩
/-- One of the rows. -/
theorem PgsIn.at_ {w : World} {A : Option Addr} {n : Nat} {l : List (List UInt8)} (h : PgsIn w A n l) {i : Nat} {x : List UInt8} (hi : l[i]? = some x) :
    ∃ ad B d, A = some ad ∧ RV w B (bv x) ∧ x.length ≤ d ∧ d ≤ maxLen ∧ (ad.add i).block < w.heap.size ∧ w.cell? (ad.add i) = some (.slice B x.length d) := by
  obtain ⟨_, ad, v, h2, ⟨B, d, hv, hr, l1, l2, _⟩, h4⟩ := h.2 i x hi
  subst hv
  have c0 := h4 0 _ rfl
  rw [add_zero, Nat.mul_one] at c0
  exact ⟨ad, B, d, h2, hr, l1, l2, World.block_lt_of_cell? w _ c0, c0⟩
/-- A part of a list in memory. -/
theorem ListIn.part {α : Type} {cell : α → Value → List Value} {val : α → List UInt8} {ok : α → Prop} {sz : Nat} {w : World} {ad : Addr} {n : Nat} {l : List α} (h : ListIn cell val ok sz w (some ad) n l) (a b : Nat) (hab : a ≤ b) (hb : b ≤ n) :
    ListIn cell val ok sz w (some (ad.add (a * sz))) (b - a) ((l.take b).drop a) := by
  refine ⟨by rw [List.length_drop, List.length_take, h.1]; omega, fun i x hx => ?_⟩
  rw [List.getElem?_drop, List.getElem?_take] at hx
  split at hx
  · obtain ⟨h1, ad', v, h2, h3, h4⟩ := h.2 _ x hx
    cases h2
    refine ⟨h1, _, v, rfl, h3, fun k u hu => ?_⟩
    have := h4 k u hu
    rw [add_add ad (a * sz) (i * sz)]
    rw [show a * sz + i * sz = (a + i) * sz by rw [Nat.add_mul]]
    exact this
  · cases hx
theorem wpList_appL1H {α : Type} {cell : α → Value → List Value} {val : α → List UInt8} {ok : α → Prop} {sz : Nat} {P : Program} (W : World) {ops : Array Oper} {rest : List Oper} {o : Oper} {a' : Act} {Q : Exit → Act → World → Prop} (hgd : o.guard = none) (s x : Operand) (t : TypeId)
    (hop : o.op = .call { callee := .builtin .append, args := #[s, x], argTypes := #[t, t] })
    (base : Nat) (e : TypeId) (i : TypeInfo) (z : Value) (bytes : Nat) (ht : P.underlying t = some (.slice e)) (hi : P.info? e = some i) (hz : i.zero = some z)
    (hsize : i.size = sz) (hby : i.bytes = bytes) (hzs : z.cells.size = sz) (h0 : 0 < sz) (hsz : ∀ a v, (cell a v).length = sz) (hone : ∀ a A n c, ∀ u ∈ cell a (.slice A n c), u.oneCell' = true)
    (v : Value) (n : Nat) (l : List α) (hs : a'.eval s = v) (hown : OwnL cell val ok sz e W base v n l) (a : α) (u : Value) (H : Nat) (hH : W.heap.size = H) (hx : a'.eval x = .slice (some ⟨H, 0, none⟩) 1 1) (hok : ok a) (hu : ValB W v.ownBlock u (val a)) (cs : Array Value) (hcs : cs = (cell a u).toArray)
    (h63 : n + 1 ≤ maxLen) (hbytes : ((n + 1) + (n + 1) / 4 + 192) * bytes ≤ 281474976710656) (hbase : base ≤ W.heap.size)
    (h : ∀ v' w', OwnL cell val ok sz e w' base v' (n + 1) (l ++ [a]) → W.grownBy w' v.ownBlock → (v'.ownBlock = v.ownBlock ∨ ∃ k, v'.ownBlock = some k ∧ W.heap.size ≤ k) → wpList P ops Q rest (a'.put o.dst v') w') :
    wpList P ops Q (o :: rest) a' (W.alloc (.cells cs e)) := by
  subst hH
  exact wpList_appL1 W hgd s x t hop base e i z bytes ht hi hz hsize hby hzs h0 hsz hone v n l hs hown a u hx hok hu cs hcs h63 hbytes hbase h
theorem valB_row {w : World} {base : Nat} {v : Value} {x : List UInt8} {e : TypeId} (h : OwnB e w base v x) {row : Option Nat} (hr : ∀ k, row = some k → k < base) : ValB w row v x := by
  obtain ⟨A, c, hv, hrv, h1, h2, h3⟩ := h.slice
  refine ⟨A, c, hv, hrv, h1, h2, fun ad e hn he => ?_⟩
  have h4 := hr _ he.symm
  have h5 := (h.blk (h3 ad e).symm).1
  omega
end Go.Proofs.Ytlioclicopakbaa
