/- Rows of the call's own, read as lists; one element more. -/
import Derived.Test.YtlcdabmclcfagaaAppV
set_option linter.unusedVariables false
set_option linter.unusedSimpArgs false
namespace Go.Proofs.Ytlcdabmclcfagaa
open Go.RowKit

theorem flat_get {β : Type} {f : β → List Value} {sz : Nat} (hf : ∀ b, (f b).length = sz) (k : Nat) (hk : k < sz) : ∀ (l : List β) (i : Nat), (l.flatMap f)[i * sz + k]? = (l[i]?).bind fun b => (f b)[k]?
  | [], i => by simp
  | b :: l, 0 => by
    rw [List.flatMap_cons, Nat.zero_mul, Nat.zero_add, List.getElem?_append_left (by rw [hf]; exact hk)]
    rfl
  | b :: l, i + 1 => by
    have ih := flat_get hf k hk l i
    rw [List.flatMap_cons, List.getElem?_append_right (by rw [hf, Nat.add_mul]; omega), hf]
    have : (i + 1) * sz + k - sz = i * sz + k := by rw [Nat.add_mul]; omega
    rw [this, ih]
    rfl

section
variable {α : Type} {cell : α → Value → List Value} {val : α → List UInt8} {ok : α → Prop} {sz : Nat}
theorem OwnL.listIn {e : TypeId} {w : World} {base : Nat} {v : Value} {n : Nat} {l : List α} (hsz : ∀ a v, (cell a v).length = sz) (h : OwnL cell val ok sz e w base v n l) :
    ∃ A c, v = .slice A n c ∧ ListIn cell val ok sz w A n l ∧ n ≤ c ∧ c ≤ maxLen ∧ (∀ ad, A = some ad → some ad.block = v.ownBlock ∧ base ≤ ad.block) := by
  obtain ⟨ps, hl, hn, hown, hp⟩ := h
  subst hl hn
  rcases hown.2 with ⟨hv, h0⟩ | ⟨g, cap, cur, hv, hb, hg, hnc, hcm, hcs, htake⟩
  · obtain rfl : ps = [] := List.eq_nil_of_length_eq_zero h0
    exact ⟨none, 0, hv, ⟨rfl, fun i a ha => by simp at ha⟩, Nat.zero_le _, by decide, fun _ h => by cases h⟩
  · refine ⟨some ⟨g, 0, none⟩, cap, hv, ⟨by simp, fun i a ha => ?_⟩, hnc, hcm, fun ad e => by injection e with e; subst e; exact ⟨by rw [hv]; rfl, hb⟩⟩
    rw [List.getElem?_map] at ha
    obtain ⟨p, hpi, rfl⟩ := Option.map_eq_some_iff.1 ha
    obtain ⟨h1, h2⟩ := hp p (List.mem_of_getElem? hpi)
    refine ⟨h1, _, p.2, rfl, h2.none_, fun k u hu => ?_⟩
    have hk : k < sz := by rw [← hsz p.1 p.2]; exact (List.getElem?_eq_some_iff.1 hu).1
    rw [add_add]
    refine hown.cells (g := g) (by rw [hv]; rfl) _ _ ?_
    rw [flat_get (f := fun p : α × Value => cell p.1 p.2) (fun p => hsz p.1 p.2) k hk, hpi]
    exact hu
/-- One element that was laid as a literal. -/
theorem run_appL1 {P : Program} (W : World) (base : Nat) (t ty e : TypeId) (i : TypeInfo) (z : Value) (bytes : Nat) (ht : P.underlying t = some (.slice e)) (hi : P.info? e = some i) (hz : i.zero = some z)
    (hsize : i.size = sz) (hby : i.bytes = bytes) (hzs : z.cells.size = sz) (h0 : 0 < sz) (hsz : ∀ a v, (cell a v).length = sz) (hone : ∀ a A n c, ∀ u ∈ cell a (.slice A n c), u.oneCell' = true)
    (v : Value) (n : Nat) (l : List α) (hown : OwnL cell val ok sz e W base v n l) (a : α) (u : Value) (hok : ok a) (hu : ValB W v.ownBlock u (val a)) (cs : Array Value) (hcs : cs = (cell a u).toArray)
    (h63 : n + 1 ≤ maxLen) (hbytes : ((n + 1) + (n + 1) / 4 + 192) * bytes ≤ 281474976710656) (hbase : base ≤ W.heap.size) :
    ∃ v' w', (Builtin.append_ #[t, t] ty #[v, .slice (some ⟨W.heap.size, 0, none⟩) 1 1]).run P (W.alloc (.cells cs e)) = .ok v' w' ∧ OwnL cell val ok sz e w' base v' (n + 1) (l ++ [a]) ∧ W.grownBy w' v.ownBlock ∧
      (v'.ownBlock = v.ownBlock ∨ ∃ k, v'.ownBlock = some k ∧ W.heap.size ≤ k) := by
  subst hcs
  obtain ⟨ps, hl, hn, ho, hp⟩ := hown
  have hnews : ∀ j x, (cell a u)[j]? = some x → (W.alloc (.cells (cell a u).toArray e)).cell? ((⟨W.heap.size, 0, none⟩ : Addr).add j) = some x := by
    intro j x hx
    rw [add_lit0, (Blk.new W e (cell a u).toArray).cell]
    simpa using hx
  have hone' : ∀ x ∈ cell a u, x.oneCell' = true := by
    obtain ⟨A, c, rfl, _⟩ := hu
    exact hone a A _ c
  obtain ⟨v', w', hrun, h2, h3, h4⟩ := run_appV (P := P) (W.alloc (.cells (cell a u).toArray e)) base t ty e i z sz bytes ht hi hz hsize hby hzs h0 v n _ (ho.alloc _) _ 1 1 (cell a u) (by rw [hsz]; omega) hnews hone' h63 hbytes (by rw [show (W.alloc (.cells (cell a u).toArray e)).heap.size = W.heap.size + 1 by simp]; omega)
  have hg : W.grownBy w' v.ownBlock := grown_trans (World.grownBy_alloc W _ _) h3
  refine ⟨v', w', hrun, ⟨ps ++ [(a, u)], by rw [List.map_append, hl]; rfl, by rw [List.length_append, hn]; rfl, by rw [List.flatMap_append]; simpa using h2, ?_⟩, hg, ?_⟩
  · have hall : ∀ p ∈ ps ++ [(a, u)], ok p.1 ∧ ValB W v.ownBlock p.2 (val p.1) := by
      intro p hp'
      rcases List.mem_append.1 hp' with hp' | hp'
      · exact hp p hp'
      · rw [List.mem_singleton] at hp'
        subst hp'
        exact ⟨hok, hu⟩
    intro p hp'
    obtain ⟨h5, h6⟩ := hall p hp'
    refine ⟨h5, ?_⟩
    rcases h4 with h4 | h4
    · rw [h4]
      exact h6.grown hg
    · obtain ⟨A, c, e1, hr, l1, l2, l3⟩ := h6
      refine ⟨A, c, e1, hr.grown hg (fun ad e hn => l3 ad e (by rwa [bv_length] at hn)), l1, l2, fun ad e hn he => ?_⟩
      have := hr.lt e (by rwa [bv_length])
      rw [h4] at he
      simp at he
      omega
  · rcases h4 with h4 | h4
    · exact .inl h4
    · exact .inr ⟨_, h4, by simp⟩
theorem wpList_appL1 {P : Program} (W : World) {ops : Array Oper} {rest : List Oper} {o : Oper} {a' : Act} {Q : Exit → Act → World → Prop} (hgd : o.guard = none) (s x : Operand) (t : TypeId)
    (hop : o.op = .call { callee := .builtin .append, args := #[s, x], argTypes := #[t, t] })
    (base : Nat) (e : TypeId) (i : TypeInfo) (z : Value) (bytes : Nat) (ht : P.underlying t = some (.slice e)) (hi : P.info? e = some i) (hz : i.zero = some z)
    (hsize : i.size = sz) (hby : i.bytes = bytes) (hzs : z.cells.size = sz) (h0 : 0 < sz) (hsz : ∀ a v, (cell a v).length = sz) (hone : ∀ a A n c, ∀ u ∈ cell a (.slice A n c), u.oneCell' = true)
    (v : Value) (n : Nat) (l : List α) (hs : a'.eval s = v) (hown : OwnL cell val ok sz e W base v n l) (a : α) (u : Value) (hx : a'.eval x = .slice (some ⟨W.heap.size, 0, none⟩) 1 1) (hok : ok a) (hu : ValB W v.ownBlock u (val a)) (cs : Array Value) (hcs : cs = (cell a u).toArray)
    (h63 : n + 1 ≤ maxLen) (hbytes : ((n + 1) + (n + 1) / 4 + 192) * bytes ≤ 281474976710656) (hbase : base ≤ W.heap.size)
    (h : ∀ v' w', OwnL cell val ok sz e w' base v' (n + 1) (l ++ [a]) → W.grownBy w' v.ownBlock → (v'.ownBlock = v.ownBlock ∨ ∃ k, v'.ownBlock = some k ∧ W.heap.size ≤ k) → wpList P ops Q rest (a'.put o.dst v') w') :
    wpList P ops Q (o :: rest) a' (W.alloc (.cells cs e)) := by
  refine wpList_plain hgd fun _ hK => ?_
  obtain ⟨v', w', hrun, h2, h3, h4⟩ := run_appL1 (P := P) W base t o.type e i z bytes ht hi hz hsize hby hzs h0 hsz hone v n l hown a u hok hu cs hcs h63 hbytes hbase
  unfold Oper.wp execOp
  simp only [hop, resolve, invoke, builtin, Sem.run_bind, Sem.run_pure, Result.andThen_ok, List.map_toArray, List.map_cons, List.map_nil, hs, hx, hrun]
  exact hK _ _ (h v' w' h2 h3 h4)
end

/-! ### facts, changes -/
end Go.Proofs.Ytlcdabmclcfagaa
