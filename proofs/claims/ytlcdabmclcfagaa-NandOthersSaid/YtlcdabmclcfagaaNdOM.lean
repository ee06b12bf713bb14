import Derived.Test.YtlcdabmclcfagaaNdMM
import Derived.Test.YtlcdabmclcfagaaMSp
import Derived.Test.YtlcdabmclcfagaaStepPM
set_option linter.unusedVariables false
set_option linter.unusedSimpArgs false
/- Rows of the call's own whose values lie in memory of their own. -/
namespace Go.Proofs.Ytlcdabmclcfagaa
open Go.RowKit

theorem offR_valR {w : World} {base : Nat} {row : Option Nat} {v : Value} {x : List UInt8} (h : OffR w base row v x) : ValB w row v x := by
  obtain ⟨A, c, hv, hrv, l1, l2, l3⟩ := h.1.slice
  refine ⟨A, c, hv, hrv, l1, l2, fun ad e1 hn he => ?_⟩
  have h1 := (l3 ad e1).symm
  rcases h.2 with h2 | h2
  · rw [h2] at h1
    cases h1
  · exact h2 (h1.trans he)
theorem offR_new {w w' : World} {base : Nat} {row : Option Nat} {v : Value} {x : List UInt8} (h : OwnB 5 w' w.heap.size v x) (hb : base ≤ w.heap.size) (hr : ∀ k, row = some k → k < w.heap.size) : OffR w' base row v x := by
  refine ⟨h.lower hb, ?_⟩
  cases hv : v.ownBlock with
  | none => exact .inl rfl
  | some k =>
    right
    intro e
    have h1 := (h.blk hv).1
    have h2 := hr k e.symm
    omega
section
variable {α : Type} (cell : α → Value → List Value) (val : α → List UInt8) (sz : Nat) (e : TypeId)
def OwnZ (w : World) (base : Nat) (v : Value) (n : Nat) (ps : List (α × Value)) : Prop := OwnPs cell val (fun _ => True) sz e w base v n ps ∧ ∀ p ∈ ps, OffR w base v.ownBlock p.2 (val p.1)
end
section
variable {α : Type} {cell : α → Value → List Value} {val : α → List UInt8} {sz : Nat} {e : TypeId}
theorem OwnZ.nil (w : World) (base : Nat) : OwnZ cell val sz e w base (.slice none 0 0) 0 [] := ⟨OwnPs.nil _ _ _, fun _ h => by cases h⟩
theorem OwnZ.below {w w' : World} {base : Nat} {v : Value} {n : Nat} {ps : List (α × Value)} (h : OwnZ cell val sz e w base v n ps) (hb : Below w.heap.size w w') : OwnZ cell val sz e w' base v n ps := ⟨OwnPs.below h.1 hb, fun p hp => (h.2 p hp).below hb⟩
theorem OwnZ.blk {w : World} {base : Nat} {v : Value} {n : Nat} {ps : List (α × Value)} (h : OwnZ cell val sz e w base v n ps) {k : Nat} (hk : v.ownBlock = some k) : base ≤ k ∧ k < w.heap.size := OwnPs.blk h.1 hk
theorem OwnZ.len {w : World} {base : Nat} {v : Value} {n : Nat} {ps : List (α × Value)} (h : OwnZ cell val sz e w base v n ps) : ps.length = n := h.1.1
theorem OwnZ.vblk {w : World} {base : Nat} {v : Value} {n : Nat} {ps : List (α × Value)} (h : OwnZ cell val sz e w base v n ps) {p : α × Value} (hp : p ∈ ps) {k : Nat} (hk : p.2.ownBlock = some k) : base ≤ k ∧ k < w.heap.size := (h.2 p hp).1.blk hk
/-- What is written lies below. -/
theorem OwnZ.far {w w' : World} {base g : Nat} {v : Value} {n : Nat} {ps : List (α × Value)} (h : OwnZ cell val sz e w base v n ps) (hg : w.grownBy w' (some g)) (hlt : g < base) : OwnZ cell val sz e w' base v n ps := by
  have hv : v.ownBlock = none ∨ v.ownBlock ≠ some g := by
    cases hvb : v.ownBlock with
    | none => exact .inl rfl
    | some k => exact .inr (fun e => by injection e with e; have := (h.blk hvb).1; omega)
  refine ⟨OwnPs.kept h.1 hg hv (fun p hp => ?_), fun p hp => (h.2 p hp).far hg hlt⟩
  have h1 := h.2 p hp
  refine offR_valR ⟨h1.1, ?_⟩
  cases hvb : p.2.ownBlock with
  | none => exact .inl rfl
  | some k => exact .inr (fun e => by injection e with e; have := (h1.1.blk hvb).1; omega)
theorem OwnZ.slice {w : World} {base : Nat} {v : Value} {n : Nat} {ps : List (α × Value)} (h : OwnZ cell val sz e w base v n ps) : ∃ A c, v = .slice A n c ∧ n ≤ c ∧ c ≤ maxLen ∧ (∀ ad, A = some ad → ∃ g, ad = ⟨g, 0, none⟩ ∧ v.ownBlock = some g) ∧ (0 < n → ∃ ad, A = some ad) := by
  obtain ⟨⟨hn, hown, hp⟩, _⟩ := h
  rcases hown.2 with ⟨hv, h0⟩ | ⟨g, cap, cur, hv, hb, hg, hnc, hcm, hcs, htake⟩
  · subst hv
    refine ⟨none, 0, by rw [h0], by omega, by decide, fun ad h => (by cases h), fun h => by omega⟩
  · refine ⟨some ⟨g, 0, none⟩, cap, hv, hnc, hcm, fun ad h => ⟨g, (by injection h with h; exact h.symm), by rw [hv]; rfl⟩, fun _ => ⟨_, rfl⟩⟩
/-- One of the row's cells. -/
theorem OwnZ.at_ {w : World} {base : Nat} {v : Value} {n : Nat} {ps : List (α × Value)} (hsz : ∀ a v, (cell a v).length = sz) (h : OwnZ cell val sz e w base v n ps) {g : Nat} (hg : v.ownBlock = some g) {i : Nat} {p : α × Value} (hi : ps[i]? = some p) {k : Nat} {u : Value} (hk : (cell p.1 p.2)[k]? = some u) : w.cell? ⟨g, i * sz + k, none⟩ = some u := by
  have hks : k < sz := by rw [← hsz p.1 p.2]; exact (List.getElem?_eq_some_iff.1 hk).1
  have h1 := h.1.2.1.cells (g := g) hg (i * sz + k) u (by
    rw [flat_get (f := fun p : α × Value => cell p.1 p.2) (fun p => hsz p.1 p.2) k hks, hi]
    exact hk)
  rwa [add_lit0] at h1
theorem wp_appZ {P : Program} (W : World) {o : Oper} {a' : Act} {K : Act → World → Prop} {Q : Exit → Act → World → Prop} (s x : Operand) (t : TypeId)
    (hop : o.op = .call { callee := .builtin .append, args := #[s, x], argTypes := #[t, t] })
    (base : Nat) (i : TypeInfo) (z : Value) (bytes : Nat) (ht : P.underlying t = some (.slice e)) (hi : P.info? e = some i) (hz : i.zero = some z)
    (hsize : i.size = sz) (hby : i.bytes = bytes) (hzs : z.cells.size = sz) (h0 : 0 < sz) (hsz : ∀ a v, (cell a v).length = sz) (hone : ∀ a A n c, ∀ u ∈ cell a (.slice A n c), u.oneCell' = true)
    (v : Value) (n : Nat) (ps : List (α × Value)) (hs : a'.eval s = v) (hown : OwnZ cell val sz e W base v n ps) (a : α) (u : Value) (hx : a'.eval x = .slice (some ⟨W.heap.size, 0, none⟩) 1 1) (hoff : OffR W base v.ownBlock u (val a)) (cs : Array Value) (hcs : cs = (cell a u).toArray)
    (h63 : n + 1 ≤ maxLen) (hbytes : ((n + 1) + (n + 1) / 4 + 192) * bytes ≤ 281474976710656) (hbase : base ≤ W.heap.size)
    (h : ∀ v' w', OwnZ cell val sz e w' base v' (n + 1) (ps ++ [(a, u)]) → W.grownBy w' v.ownBlock → K (a'.put o.dst v') w') :
    Oper.wp P o a' (W.alloc (.cells cs e)) K Q := by
  obtain ⟨v', w', hrun, h2, h3, h4⟩ := run_appP1 (P := P) W base t o.type e i z bytes ht hi hz hsize hby hzs h0 hsz hone v n ps hown.1 a u trivial (offR_valR hoff) cs hcs h63 hbytes hbase
  unfold Oper.wp execOp
  simp only [hop, resolve, invoke, builtin, Sem.run_bind, Sem.run_pure, Result.andThen_ok, List.map_toArray, List.map_cons, List.map_nil, hs, hx, hrun]
  refine h v' w' ⟨h2, fun p hp => ?_⟩ h3
  rcases List.mem_append.1 hp with hp | hp
  · exact (hown.2 p hp).app h3 h4
  · rw [List.mem_singleton] at hp
    subst hp
    exact hoff.app h3 h4
end
/-- What strikes, in a row of the call's own. -/
theorem OwnZ.hits {w : World} {base : Nat} {v : Value} {n : Nat} {ps : List (Htt × Value)} (h : OwnZ hitCells Htt.mask 3 36 w base v n ps) : ∃ A c, v = .slice A n c ∧ n ≤ c ∧ c ≤ maxLen ∧ HitsP w (fun k => base ≤ k ∧ k < w.heap.size) A (ps.map (·.1)) := by
  obtain ⟨A, c, hv, h1, h2, h3, h4⟩ := h.slice
  refine ⟨A, c, hv, h1, h2, fun i x hi => ?_⟩
  rw [List.getElem?_map, Option.map_eq_some_iff] at hi
  obtain ⟨p, hp, hx⟩ := hi
  have hin := (List.getElem?_eq_some_iff.1 hp).1
  have hl := h.len
  obtain ⟨ad, hA⟩ := h4 (by omega)
  obtain ⟨g, rfl, hg⟩ := h3 ad hA
  obtain ⟨Bv, d, e1, hr, l1, l2, l3⟩ := (h.2 p (List.mem_of_getElem? hp)).1.slice
  have hc := fun k u hk => h.at_ hit_len hg hp (k := k) (u := u) hk
  refine ⟨⟨g, 0, none⟩, Bv, d, hA, h.blk hg, ?_, ?_, ?_, by rw [← hx]; exact hr, fun bd hB hn => ?_, by rw [← hx]; exact l1, l2⟩
  · have := hc 0 _ rfl
    rw [add_lit0, ← hx]
    exact this
  · have := hc 1 _ rfl
    rw [add_lit0, ← hx]
    exact this
  · have := hc 2 _ rfl
    rw [add_lit0, ← hx, ← e1]
    exact this
  · exact (h.2 p (List.mem_of_getElem? hp)).1.blk (l3 bd hB).symm
end Go.Proofs.Ytlcdabmclcfagaa
