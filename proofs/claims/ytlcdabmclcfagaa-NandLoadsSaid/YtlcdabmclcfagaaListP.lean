/- Rows of the call's own with their values in sight. -/
import Derived.Test.YtlcdabmclcfagaaListV
set_option linter.unusedVariables false
set_option linter.unusedSimpArgs false
namespace Go.Proofs.Ytlcdabmclcfagaa
open Go.RowKit

section
variable {α : Type} (cell : α → Value → List Value) (val : α → List UInt8) (ok : α → Prop) (sz : Nat)
def OwnPs (e : TypeId) (w : World) (base : Nat) (v : Value) (n : Nat) (ps : List (α × Value)) : Prop :=
  ps.length = n ∧ w.ownsRow base e sz v n (ps.flatMap fun p => cell p.1 p.2) ∧ ∀ p ∈ ps, ok p.1 ∧ ValB w v.ownBlock p.2 (val p.1)
end
section
variable {α : Type} {cell : α → Value → List Value} {val : α → List UInt8} {ok : α → Prop} {sz : Nat}
theorem OwnPs.list {e : TypeId} {w : World} {base : Nat} {v : Value} {n : Nat} {ps : List (α × Value)} (h : OwnPs cell val ok sz e w base v n ps) : OwnL cell val ok sz e w base v n (ps.map (·.1)) := ⟨ps, rfl, h.1, h.2.1, h.2.2⟩
theorem OwnPs.nil (e : TypeId) (w : World) (base : Nat) : OwnPs cell val ok sz e w base (.slice none 0 0) 0 [] := ⟨rfl, World.ownsRow_nil w base e sz, fun _ h => by cases h⟩
theorem OwnPs.blk {e : TypeId} {w : World} {base : Nat} {v : Value} {n : Nat} {ps : List (α × Value)} (h : OwnPs cell val ok sz e w base v n ps) {k : Nat} (hk : v.ownBlock = some k) : base ≤ k ∧ k < w.heap.size := h.2.1.lt k hk
theorem OwnPs.kept {e : TypeId} {w w' : World} {base : Nat} {v : Value} {n : Nat} {ps : List (α × Value)} {row : Option Nat} (h : OwnPs cell val ok sz e w base v n ps) (hg : w.grownBy w' row) (hne : v.ownBlock = none ∨ v.ownBlock ≠ row)
    (hv : ∀ p ∈ ps, ValB w row p.2 (val p.1)) : OwnPs cell val ok sz e w' base v n ps := by
  refine ⟨h.1, h.2.1.kept hg hne, fun p hp => ⟨(h.2.2 p hp).1, ?_⟩⟩
  obtain ⟨A, c, e1, hr, l1, l2, l3⟩ := (h.2.2 p hp).2
  obtain ⟨A', c', e1', hr', _, _, l3'⟩ := hv p hp
  rw [e1] at e1'
  injection e1' with e2 _ _
  subst e2
  exact ⟨A, c, e1, hr.grown hg (fun ad e hn => l3' ad e (by rwa [bv_length] at hn)), l1, l2, l3⟩
theorem OwnPs.below {e : TypeId} {w w' : World} {base : Nat} {v : Value} {n : Nat} {ps : List (α × Value)} (h : OwnPs cell val ok sz e w base v n ps) (hb : Below w.heap.size w w') : OwnPs cell val ok sz e w' base v n ps :=
  ⟨h.1, h.2.1.kept (grown_of_below hb none) (by cases v.ownBlock with | none => exact .inl rfl | some k => exact .inr (by simp)), fun p hp => ⟨(h.2.2 p hp).1, (h.2.2 p hp).2.below hb⟩⟩
theorem ValB.kept {w w' : World} {r1 r2 : Option Nat} {v : Value} {l : List UInt8} (h : ValB w r1 v l) (h2 : ValB w r2 v l) (hg : w.grownBy w' r2) : ValB w' r1 v l := by
  obtain ⟨A, c, e1, hr, l1, l2, l3⟩ := h
  obtain ⟨A', c', e1', hr', _, _, l3'⟩ := h2
  rw [e1] at e1'
  injection e1' with e2 _ _
  subst e2
  exact ⟨A, c, e1, hr.grown hg (fun ad e hn => l3' ad e (by rwa [bv_length] at hn)), l1, l2, l3⟩
/-- One element that was laid as a literal. -/
theorem run_appP1 {P : Program} (W : World) (base : Nat) (t ty e : TypeId) (i : TypeInfo) (z : Value) (bytes : Nat) (ht : P.underlying t = some (.slice e)) (hi : P.info? e = some i) (hz : i.zero = some z)
    (hsize : i.size = sz) (hby : i.bytes = bytes) (hzs : z.cells.size = sz) (h0 : 0 < sz) (hsz : ∀ a v, (cell a v).length = sz) (hone : ∀ a A n c, ∀ u ∈ cell a (.slice A n c), u.oneCell' = true)
    (v : Value) (n : Nat) (ps : List (α × Value)) (hown : OwnPs cell val ok sz e W base v n ps) (a : α) (u : Value) (hok : ok a) (hu : ValB W v.ownBlock u (val a)) (cs : Array Value) (hcs : cs = (cell a u).toArray)
    (h63 : n + 1 ≤ maxLen) (hbytes : ((n + 1) + (n + 1) / 4 + 192) * bytes ≤ 281474976710656) (hbase : base ≤ W.heap.size) :
    ∃ v' w', (Builtin.append_ #[t, t] ty #[v, .slice (some ⟨W.heap.size, 0, none⟩) 1 1]).run P (W.alloc (.cells cs e)) = .ok v' w' ∧ OwnPs cell val ok sz e w' base v' (n + 1) (ps ++ [(a, u)]) ∧ W.grownBy w' v.ownBlock ∧
      (v'.ownBlock = v.ownBlock ∨ ∃ k, v'.ownBlock = some k ∧ W.heap.size ≤ k) := by
  subst hcs
  obtain ⟨hn, ho, hp⟩ := hown
  have hnews : ∀ j x, (cell a u)[j]? = some x → (W.alloc (.cells (cell a u).toArray e)).cell? ((⟨W.heap.size, 0, none⟩ : Addr).add j) = some x := by
    intro j x hx
    rw [add_lit0, (Blk.new W e (cell a u).toArray).cell]
    simpa using hx
  have hone' : ∀ x ∈ cell a u, x.oneCell' = true := by
    obtain ⟨A, c, rfl, _⟩ := hu
    exact hone a A _ c
  obtain ⟨v', w', hrun, h2, h3, h4⟩ := run_appV (P := P) (W.alloc (.cells (cell a u).toArray e)) base t ty e i z sz bytes ht hi hz hsize hby hzs h0 v n _ (ho.alloc _) _ 1 1 (cell a u) (by rw [hsz]; omega) hnews hone' h63 hbytes (by rw [show (W.alloc (.cells (cell a u).toArray e)).heap.size = W.heap.size + 1 by simp]; omega)
  have hg : W.grownBy w' v.ownBlock := grown_trans (World.grownBy_alloc W _ _) h3
  refine ⟨v', w', hrun, ⟨by rw [List.length_append, hn]; rfl, by rw [List.flatMap_append]; simpa using h2, ?_⟩, hg, ?_⟩
  · have hall : ∀ p ∈ ps ++ [(a, u)], ok p.1 ∧ ValB W v.ownBlock p.2 (val p.1) := by
      intro p hp'
      rcases List.mem_append.1 hp' with hp' | hp'
      · exact hp p hp'
      · rw [List.mem_singleton] at hp'
        subst hp'
        exact ⟨hok, hu⟩
    intro p hp'
    obtain ⟨h5, h6⟩ := hall p hp'
    refine ⟨h5, ?_⟩
    rcases h4 with h4 | h4
    · rw [h4]
      exact h6.grown hg
    · obtain ⟨A, c, e1, hr, l1, l2, l3⟩ := h6
      refine ⟨A, c, e1, hr.grown hg (fun ad e hn => l3 ad e (by rwa [bv_length] at hn)), l1, l2, fun ad e hn he => ?_⟩
      have := hr.lt e (by rwa [bv_length])
      rw [h4] at he
      simp at he
      omega
  · rcases h4 with h4 | h4
    · exact .inl h4
    · exact .inr ⟨_, h4, by simp⟩
theorem wpList_appP1 {P : Program} (W : World) {ops : Array Oper} {rest : List Oper} {o : Oper} {a' : Act} {Q : Exit → Act → World → Prop} (hgd : o.guard = none) (s x : Operand) (t : TypeId)
    (hop : o.op = .call { callee := .builtin .append, args := #[s, x], argTypes := #[t, t] })
    (base : Nat) (e : TypeId) (i : TypeInfo) (z : Value) (bytes : Nat) (ht : P.underlying t = some (.slice e)) (hi : P.info? e = some i) (hz : i.zero = some z)
    (hsize : i.size = sz) (hby : i.bytes = bytes) (hzs : z.cells.size = sz) (h0 : 0 < sz) (hsz : ∀ a v, (cell a v).length = sz) (hone : ∀ a A n c, ∀ u ∈ cell a (.slice A n c), u.oneCell' = true)
    (v : Value) (n : Nat) (ps : List (α × Value)) (hs : a'.eval s = v) (hown : OwnPs cell val ok sz e W base v n ps) (a : α) (u : Value) (hx : a'.eval x = .slice (some ⟨W.heap.size, 0, none⟩) 1 1) (hok : ok a) (hu : ValB W v.ownBlock u (val a)) (cs : Array Value) (hcs : cs = (cell a u).toArray)
    (h63 : n + 1 ≤ maxLen) (hbytes : ((n + 1) + (n + 1) / 4 + 192) * bytes ≤ 281474976710656) (hbase : base ≤ W.heap.size)
    (h : ∀ v' w', OwnPs cell val ok sz e w' base v' (n + 1) (ps ++ [(a, u)]) → W.grownBy w' v.ownBlock → (v'.ownBlock = v.ownBlock ∨ ∃ k, v'.ownBlock = some k ∧ W.heap.size ≤ k) → wpList P ops Q rest (a'.put o.dst v') w') :
    wpList P ops Q (o :: rest) a' (W.alloc (.cells cs e)) := by
  refine wpList_plain hgd fun _ hK => ?_
  obtain ⟨v', w', hrun, h2, h3, h4⟩ := run_appP1 (P := P) W base t o.type e i z bytes ht hi hz hsize hby hzs h0 hsz hone v n ps hown a u hok hu cs hcs h63 hbytes hbase
  unfold Oper.wp execOp
  simp only [hop, resolve, invoke, builtin, Sem.run_bind, Sem.run_pure, Result.andThen_ok, List.map_toArray, List.map_cons, List.map_nil, hs, hx, hrun]
  exact hK _ _ (h v' w' h2 h3 h4)
theorem wpList_appP1H {P : Program} (W : World) {ops : Array Oper} {rest : List Oper} {o : Oper} {a' : Act} {Q : Exit → Act → World → Prop} (hgd : o.guard = none) (s x : Operand) (t : TypeId)
    (hop : o.op = .call { callee := .builtin .append, args := #[s, x], argTypes := #[t, t] })
    (base : Nat) (e : TypeId) (i : TypeInfo) (z : Value) (bytes : Nat) (ht : P.underlying t = some (.slice e)) (hi : P.info? e = some i) (hz : i.zero = some z)
    (hsize : i.size = sz) (hby : i.bytes = bytes) (hzs : z.cells.size = sz) (h0 : 0 < sz) (hsz : ∀ a v, (cell a v).length = sz) (hone : ∀ a A n c, ∀ u ∈ cell a (.slice A n c), u.oneCell' = true)
    (v : Value) (n : Nat) (ps : List (α × Value)) (hs : a'.eval s = v) (hown : OwnPs cell val ok sz e W base v n ps) (a : α) (u : Value) (H : Nat) (hH : W.heap.size = H) (hx : a'.eval x = .slice (some ⟨H, 0, none⟩) 1 1) (hok : ok a) (hu : ValB W v.ownBlock u (val a)) (cs : Array Value) (hcs : cs = (cell a u).toArray)
    (h63 : n + 1 ≤ maxLen) (hbytes : ((n + 1) + (n + 1) / 4 + 192) * bytes ≤ 281474976710656) (hbase : base ≤ W.heap.size)
    (h : ∀ v' w', OwnPs cell val ok sz e w' base v' (n + 1) (ps ++ [(a, u)]) → W.grownBy w' v.ownBlock → (v'.ownBlock = v.ownBlock ∨ ∃ k, v'.ownBlock = some k ∧ W.heap.size ≤ k) → wpList P ops Q rest (a'.put o.dst v') w') :
    wpList P ops Q (o :: rest) a' (W.alloc (.cells cs e)) := by
  subst hH
  exact wpList_appP1 W hgd s x t hop base e i z bytes ht hi hz hsize hby hzs h0 hsz hone v n ps hs hown a u hx hok hu cs hcs h63 hbytes hbase h
end

end Go.Proofs.Ytlcdabmclcfagaa
