import Derived.Deep.DeepAppendWide
import Derived.Deep.AppendLies
import Derived.Test.YtlcdabmclcfagaaMBase
set_option linter.unusedVariables false
set_option linter.unusedSimpArgs false
/- append onto rows of the call's own of whatever elements: where the new row lies. -/
namespace Go.Proofs.Ytlcdabmclcfagaa
open Go.RowKit

theorem run_appV {P : Program} (w : World) (base : Nat) (t ty e : TypeId) (i : TypeInfo) (z : Value) (size bytes : Nat) (ht : P.underlying t = some (.slice e)) (hi : P.info? e = some i) (hz : i.zero = some z)
    (hsize : i.size = size) (hby : i.bytes = bytes) (hzs : z.cells.size = size) (hsz : 0 < size)
    (v : Value) (n : Nat) (xs : List Value) (hown : w.ownsRow base e size v n xs)
    (a : Addr) (m c : Nat) (news : List Value) (hl : news.length = m * size) (hnews : ∀ j u, news[j]? = some u → w.cell? (a.add j) = some u) (h1 : ∀ u ∈ news, u.oneCell' = true)
    (h63 : n + m ≤ maxLen) (hbytes : ((n + m) + (n + m) / 4 + 192) * bytes ≤ 281474976710656) (hbase : base ≤ w.heap.size) :
    ∃ v' w', (Builtin.append_ #[t, t] ty #[v, .slice (some a) m c]).run P w = .ok v' w' ∧ w'.ownsRow base e size v' (n + m) (xs ++ news) ∧ w.grownBy w' v.ownBlock ∧
      (v'.ownBlock = v.ownBlock ∨ v'.ownBlock = some w.heap.size) := by
  obtain ⟨v', w', hrun, ho, hg, _⟩ := run_append_own_wide (P := P) w base t ty e i z size bytes ht hi hz hsize hby hzs hsz v n xs hown a m c news hl hnews h1 h63 hbytes hbase
  refine ⟨v', w', hrun, ho, hg, ?_⟩
  subst hsize
  subst hby
  rcases hown.2 with ⟨rfl, rfl⟩ | ⟨g, cap, cur, rfl, hbg, hgr, hnc, hcm, hcs, htake⟩
  · by_cases hm : m = 0
    · subst hm
      left
      have hn : news = [] := List.eq_nil_of_length_eq_zero (by simpa using hl)
      have h2 : (Builtin.append_ #[t, t] ty #[.slice none 0 0, .slice (some a) 0 c]).run P w = .ok (.slice none 0 0) w := by
        simp [Builtin.append_, run_underlying ht, sizeOf, typeInfo, hi, Builtin.lenOf, Builtin.firstCells, loadCells, loadCellsFrom]
      rw [h2] at hrun
      injection hrun with h3 _
      rw [← h3]
    · right
      have hb := hbytes
      simp only [Nat.zero_add] at hb
      have hr := run_append_nil (P := P) w t ty e i z ht hi hz a m c news hl hnews (by omega) (by simp only [maxLen] at h63; omega) (Nat.le_trans (Nat.mul_le_mul_right _ (by omega)) hb)
      rw [hr] at hrun
      injection hrun with h3 _
      rw [← h3]
      rfl
  · by_cases hroom : n + m ≤ cap
    · left
      have hfit : n * i.size + news.length ≤ cur.size := by rw [hl, hcs, ← Nat.add_mul]; exact Nat.mul_le_mul_right _ hroom
      have hr := run_append_room (P := P) w t ty e i ht hi g n cap cur hgr a m c news hl hnews h1 hroom hfit
      rw [hr] at hrun
      injection hrun with h3 _
      rw [← h3]
      rfl
    · right
      have holds : ∀ j u, xs[j]? = some u → w.cell? ((⟨g, 0, none⟩ : Addr).add j) = some u := hown.cells (g := g) rfl
      have hr := run_append_grow (P := P) w t ty e i z ht hi hz ⟨g, 0, none⟩ n cap xs hown.1 holds a m c news hl hnews (by omega) (by simp only [maxLen] at h63; omega) (growslice_fits_wide (by omega) hbytes)
      rw [hr] at hrun
      injection hrun with h3 _
      rw [← h3]
      rfl

/-! ### lists of elements that hold bytes -/
/-- A slice of bytes that reads, not in a block. -/
def ValB (w : World) (row : Option Nat) (v : Value) (l : List UInt8) : Prop :=
  ∃ A c, v = .slice A l.length c ∧ RV w A (bv l) ∧ l.length ≤ c ∧ c ≤ maxLen ∧ ∀ ad, A = some ad → 0 < l.length → some ad.block ≠ row
theorem ValB.grown {w w' : World} {row : Option Nat} {v : Value} {l : List UInt8} (h : ValB w row v l) (hg : w.grownBy w' row) : ValB w' row v l := by
  obtain ⟨A, c, hv, hr, h1, h2, h3⟩ := h
  exact ⟨A, c, hv, hr.grown hg (fun ad e hn => h3 ad e (by rwa [bv_length] at hn)), h1, h2, h3⟩
theorem ValB.below {w w' : World} {row : Option Nat} {v : Value} {l : List UInt8} (h : ValB w row v l) (hb : Below w.heap.size w w') : ValB w' row v l := by
  obtain ⟨A, c, hv, hr, h1, h2, h3⟩ := h
  exact ⟨A, c, hv, hr.below hb, h1, h2, h3⟩
/-- A row that is not there yet. -/
theorem ValB.fresh {w : World} {row : Option Nat} {v : Value} {l : List UInt8} (h : ValB w row v l) {k : Nat} (hk : w.heap.size ≤ k) : ValB w (some k) v l := by
  obtain ⟨A, c, hv, hr, h1, h2, h3⟩ := h
  exact ⟨A, c, hv, hr, h1, h2, fun ad e hn he => by
    have := hr.lt e (by rwa [bv_length])
    injection he with he
    omega⟩
theorem ValB.none_ {w : World} {row : Option Nat} {v : Value} {l : List UInt8} (h : ValB w row v l) : ValB w none v l := by
  obtain ⟨A, c, hv, hr, h1, h2, h3⟩ := h
  exact ⟨A, c, hv, hr, h1, h2, fun _ _ _ he => by cases he⟩

section
variable {α : Type} (cell : α → Value → List Value) (val : α → List UInt8) (ok : α → Prop) (sz : Nat)
/-- A slice of elements that reads as a list. -/
def ListIn (w : World) (A : Option Addr) (n : Nat) (l : List α) : Prop :=
  l.length = n ∧ ∀ i a, l[i]? = some a → ok a ∧ ∃ ad v, A = some ad ∧ ValB w none v (val a) ∧ ∀ k u, (cell a v)[k]? = some u → w.cell? ((ad.add (i * sz)).add k) = some u
/-- A slice of elements of the call's own. -/
def OwnL (e : TypeId) (w : World) (base : Nat) (v : Value) (n : Nat) (l : List α) : Prop :=
  ∃ ps : List (α × Value), ps.map (·.1) = l ∧ ps.length = n ∧ w.ownsRow base e sz v n (ps.flatMap fun p => cell p.1 p.2) ∧ ∀ p ∈ ps, ok p.1 ∧ ValB w v.ownBlock p.2 (val p.1)
end
section
variable {α : Type} {cell : α → Value → List Value} {val : α → List UInt8} {ok : α → Prop} {sz : Nat}
theorem ListIn.below {w w' : World} {A : Option Addr} {n : Nat} {l : List α} (hsz : ∀ a v, (cell a v).length = sz) (h0 : 0 < sz) (h : ListIn cell val ok sz w A n l) (hb : Below w.heap.size w w') : ListIn cell val ok sz w' A n l := by
  refine ⟨h.1, fun i a ha => ?_⟩
  obtain ⟨h1, ad, v, h2, h3, h4⟩ := h.2 i a ha
  refine ⟨h1, ad, v, h2, h3.below hb, fun k u hu => ?_⟩
  have hc := h4 k u hu
  have hlt := World.block_lt_of_cell? w _ hc
  exact (World.cell?_of_block (hb.block _ hlt)).trans hc
theorem ListIn.grown {w w' : World} {A : Option Addr} {n : Nat} {l : List α} {row : Option Nat} (h : ListIn cell val ok sz w A n l) (hg : w.grownBy w' row) (hA : ∀ ad, A = some ad → some ad.block ≠ row)
    (hv : ∀ i a ad v, l[i]? = some a → A = some ad → ValB w none v (val a) → (∀ k u, (cell a v)[k]? = some u → w.cell? ((ad.add (i * sz)).add k) = some u) → ValB w row v (val a)) : ListIn cell val ok sz w' A n l := by
  refine ⟨h.1, fun i a ha => ?_⟩
  obtain ⟨h1, ad, v, h2, h3, h4⟩ := h.2 i a ha
  refine ⟨h1, ad, v, h2, ((hv i a ad v ha h2 h3 h4).grown hg).none_, fun k u hu => ?_⟩
  exact hg.cell (h4 k u hu) (by rw [block_add, block_add]; exact hA ad h2)
theorem OwnL.nil (e : TypeId) (w : World) (base : Nat) : OwnL cell val ok sz e w base (.slice none 0 0) 0 [] := ⟨[], rfl, rfl, World.ownsRow_nil w base e sz, fun _ h => by cases h⟩
theorem OwnL.len {e : TypeId} {w : World} {base : Nat} {v : Value} {n : Nat} {l : List α} (h : OwnL cell val ok sz e w base v n l) : l.length = n := by
  obtain ⟨ps, rfl, rfl, _, _⟩ := h
  simp
theorem OwnL.blk {e : TypeId} {w : World} {base : Nat} {v : Value} {n : Nat} {l : List α} (h : OwnL cell val ok sz e w base v n l) {k : Nat} (hk : v.ownBlock = some k) : base ≤ k ∧ k < w.heap.size := by
  obtain ⟨ps, _, _, h3, _⟩ := h
  exact h3.lt k hk
theorem OwnL.kept {e : TypeId} {w w' : World} {base : Nat} {v : Value} {n : Nat} {l : List α} {row : Option Nat} (h : OwnL cell val ok sz e w base v n l) (hg : w.grownBy w' row) (hne : v.ownBlock = none ∨ v.ownBlock ≠ row)
    (hv : ∀ u x, ValB w v.ownBlock u x → ValB w row u x) : OwnL cell val ok sz e w' base v n l := by
  obtain ⟨ps, h1, h2, h3, h4⟩ := h
  refine ⟨ps, h1, h2, h3.kept hg hne, fun p hp => ⟨(h4 p hp).1, ?_⟩⟩
  obtain ⟨A, c, e1, hr, l1, l2, l3⟩ := (h4 p hp).2
  obtain ⟨A', c', e1', hr', _, _, l3'⟩ := hv _ _ (h4 p hp).2
  rw [e1] at e1'
  injection e1' with e2 _ _
  subst e2
  exact ⟨A, c, e1, hr.grown hg (fun ad e hn => l3' ad e (by rwa [bv_length] at hn)), l1, l2, l3⟩
theorem OwnL.below {e : TypeId} {w w' : World} {base : Nat} {v : Value} {n : Nat} {l : List α} (h : OwnL cell val ok sz e w base v n l) (hb : Below w.heap.size w w') : OwnL cell val ok sz e w' base v n l := by
  obtain ⟨ps, h1, h2, h3, h4⟩ := h
  refine ⟨ps, h1, h2, h3.kept (grown_of_below hb none) ?_, fun p hp => ⟨(h4 p hp).1, (h4 p hp).2.below hb⟩⟩
  cases v.ownBlock with
  | none => exact .inl rfl
  | some k => exact .inr (by simp)
theorem OwnL.lower {e : TypeId} {w : World} {base b : Nat} {v : Value} {n : Nat} {l : List α} (h : OwnL cell val ok sz e w base v n l) (hb : b ≤ base) : OwnL cell val ok sz e w b v n l := by
  obtain ⟨ps, h1, h2, h3, h4⟩ := h
  refine ⟨ps, h1, h2, ⟨h3.1, ?_⟩, h4⟩
  rcases h3.2 with h | ⟨g, cap, cur, e1, e2, e3⟩
  · exact .inl h
  · exact .inr ⟨g, cap, cur, e1, Nat.le_trans hb e2, e3⟩
end
end Go.Proofs.Ytlcdabmclcfagaa

/- Rows of the call's own, read as lists; one element more. -/
namespace Go.Proofs.Ytlcdabmclcfagaa
open Go.RowKit

theorem flat_get {β : Type} {f : β → List Value} {sz : Nat} (hf : ∀ b, (f b).length = sz) (k : Nat) (hk : k < sz) : ∀ (l : List β) (i : Nat), (l.flatMap f)[i * sz + k]? = (l[i]?).bind fun b => (f b)[k]?
  | [], i => by simp
  | b :: l, 0 => by
    rw [List.flatMap_cons, Nat.zero_mul, Nat.zero_add, List.getElem?_append_left (by rw [hf]; exact hk)]
    rfl
  | b :: l, i + 1 => by
    have ih := flat_get hf k hk l i
    rw [List.flatMap_cons, List.getElem?_append_right (by rw [hf, Nat.add_mul]; omega), hf]
    have : (i + 1) * sz + k - sz = i * sz + k := by rw [Nat.add_mul]; omega
    rw [this, ih]
    rfl

section
variable {α : Type} {cell : α → Value → List Value} {val : α → List UInt8} {ok : α → Prop} {sz : Nat}
theorem OwnL.listIn {e : TypeId} {w : World} {base : Nat} {v : Value} {n : Nat} {l : List α} (hsz : ∀ a v, (cell a v).length = sz) (h : OwnL cell val ok sz e w base v n l) :
    ∃ A c, v = .slice A n c ∧ ListIn cell val ok sz w A n l ∧ n ≤ c ∧ c ≤ maxLen ∧ (∀ ad, A = some ad → some ad.block = v.ownBlock ∧ base ≤ ad.block) := by
  obtain ⟨ps, hl, hn, hown, hp⟩ := h
  subst hl hn
  rcases hown.2 with ⟨hv, h0⟩ | ⟨g, cap, cur, hv, hb, hg, hnc, hcm, hcs, htake⟩
  · obtain rfl : ps = [] := List.eq_nil_of_length_eq_zero h0
    exact ⟨none, 0, hv, ⟨rfl, fun i a ha => by simp at ha⟩, Nat.zero_le _, by decide, fun _ h => by cases h⟩
  · refine ⟨some ⟨g, 0, none⟩, cap, hv, ⟨by simp, fun i a ha => ?_⟩, hnc, hcm, fun ad e => by injection e with e; subst e; exact ⟨by rw [hv]; rfl, hb⟩⟩
    rw [List.getElem?_map] at ha
    obtain ⟨p, hpi, rfl⟩ := Option.map_eq_some_iff.1 ha
    obtain ⟨h1, h2⟩ := hp p (List.mem_of_getElem? hpi)
    refine ⟨h1, _, p.2, rfl, h2.none_, fun k u hu => ?_⟩
    have hk : k < sz := by rw [← hsz p.1 p.2]; exact (List.getElem?_eq_some_iff.1 hu).1
    rw [add_add]
    refine hown.cells (g := g) (by rw [hv]; rfl) _ _ ?_
    rw [flat_get (f := fun p : α × Value => cell p.1 p.2) (fun p => hsz p.1 p.2) k hk, hpi]
    exact hu
/-- One element that was laid as a literal. -/
theorem run_appL1 {P : Program} (W : World) (base : Nat) (t ty e : TypeId) (i : TypeInfo) (z : Value) (bytes : Nat) (ht : P.underlying t = some (.slice e)) (hi : P.info? e = some i) (hz : i.zero = some z)
    (hsize : i.size = sz) (hby : i.bytes = bytes) (hzs : z.cells.size = sz) (h0 : 0 < sz) (hsz : ∀ a v, (cell a v).length = sz) (hone : ∀ a A n c, ∀ u ∈ cell a (.slice A n c), u.oneCell' = true)
    (v : Value) (n : Nat) (l : List α) (hown : OwnL cell val ok sz e W base v n l) (a : α) (u : Value) (hok : ok a) (hu : ValB W v.ownBlock u (val a)) (cs : Array Value) (hcs : cs = (cell a u).toArray)
    (h63 : n + 1 ≤ maxLen) (hbytes : ((n + 1) + (n + 1) / 4 + 192) * bytes ≤ 281474976710656) (hbase : base ≤ W.heap.size) :
    ∃ v' w', (Builtin.append_ #[t, t] ty #[v, .slice (some ⟨W.heap.size, 0, none⟩) 1 1]).run P (W.alloc (.cells cs e)) = .ok v' w' ∧ OwnL cell val ok sz e w' base v' (n + 1) (l ++ [a]) ∧ W.grownBy w' v.ownBlock ∧
      (v'.ownBlock = v.ownBlock ∨ ∃ k, v'.ownBlock = some k ∧ W.heap.size ≤ k) := by
  subst hcs
  obtain ⟨ps, hl, hn, ho, hp⟩ := hown
  have hnews : ∀ j x, (cell a u)[j]? = some x → (W.alloc (.cells (cell a u).toArray e)).cell? ((⟨W.heap.size, 0, none⟩ : Addr).add j) = some x := by
    intro j x hx
    rw [add_lit0, (Blk.new W e (cell a u).toArray).cell]
    simpa using hx
  have hone' : ∀ x ∈ cell a u, x.oneCell' = true := by
    obtain ⟨A, c, rfl, _⟩ := hu
    exact hone a A _ c
  obtain ⟨v', w', hrun, h2, h3, h4⟩ := run_appV (P := P) (W.alloc (.cells (cell a u).toArray e)) base t ty e i z sz bytes ht hi hz hsize hby hzs h0 v n _ (ho.alloc _) _ 1 1 (cell a u) (by rw [hsz]; omega) hnews hone' h63 hbytes (by rw [show (W.alloc (.cells (cell a u).toArray e)).heap.size = W.heap.size + 1 by simp]; omega)
  have hg : W.grownBy w' v.ownBlock := grown_trans (World.grownBy_alloc W _ _) h3
  refine ⟨v', w', hrun, ⟨ps ++ [(a, u)], by rw [List.map_append, hl]; rfl, by rw [List.length_append, hn]; rfl, by rw [List.flatMap_append]; simpa using h2, ?_⟩, hg, ?_⟩
  · have hall : ∀ p ∈ ps ++ [(a, u)], ok p.1 ∧ ValB W v.ownBlock p.2 (val p.1) := by
      intro p hp'
      rcases List.mem_append.1 hp' with hp' | hp'
      · exact hp p hp'
      · rw [List.mem_singleton] at hp'
        subst hp'
        exact ⟨hok, hu⟩
    intro p hp'
    obtain ⟨h5, h6⟩ := hall p hp'
    refine ⟨h5, ?_⟩
    rcases h4 with h4 | h4
    · rw [h4]
      exact h6.grown hg
    · obtain ⟨A, c, e1, hr, l1, l2, l3⟩ := h6
      refine ⟨A, c, e1, hr.grown hg (fun ad e hn => l3 ad e (by rwa [bv_length] at hn)), l1, l2, fun ad e hn he => ?_⟩
      have := hr.lt e (by rwa [bv_length])
      rw [h4] at he
      simp at he
      omega
  · rcases h4 with h4 | h4
    · exact .inl h4
    · exact .inr ⟨_, h4, by simp⟩
theorem wpList_appL1 {P : Program} (W : World) {ops : Array Oper} {rest : List Oper} {o : Oper} {a' : Act} {Q : Exit → Act → World → Prop} (hgd : o.guard = none) (s x : Operand) (t : TypeId)
    (hop : o.op = .call { callee := .builtin .append, args := #[s, x], argTypes := #[t, t] })
    (base : Nat) (e : TypeId) (i : TypeInfo) (z : Value) (bytes : Nat) (ht : P.underlying t = some (.slice e)) (hi : P.info? e = some i) (hz : i.zero = some z)
    (hsize : i.size = sz) (hby : i.bytes = bytes) (hzs : z.cells.size = sz) (h0 : 0 < sz) (hsz : ∀ a v, (cell a v).length = sz) (hone : ∀ a A n c, ∀ u ∈ cell a (.slice A n c), u.oneCell' = true)
    (v : Value) (n : Nat) (l : List α) (hs : a'.eval s = v) (hown : OwnL cell val ok sz e W base v n l) (a : α) (u : Value) (hx : a'.eval x = .slice (some ⟨W.heap.size, 0, none⟩) 1 1) (hok : ok a) (hu : ValB W v.ownBlock u (val a)) (cs : Array Value) (hcs : cs = (cell a u).toArray)
    (h63 : n + 1 ≤ maxLen) (hbytes : ((n + 1) + (n + 1) / 4 + 192) * bytes ≤ 281474976710656) (hbase : base ≤ W.heap.size)
    (h : ∀ v' w', OwnL cell val ok sz e w' base v' (n + 1) (l ++ [a]) → W.grownBy w' v.ownBlock → (v'.ownBlock = v.ownBlock ∨ ∃ k, v'.ownBlock = some k ∧ W.heap.size ≤ k) → wpList P ops Q rest (a'.put o.dst v') w') :
    wpList P ops Q (o :: rest) a' (W.alloc (.cells cs e)) := by
  refine wpList_plain hgd fun _ hK => ?_
  obtain ⟨v', w', hrun, h2, h3, h4⟩ := run_appL1 (P := P) W base t o.type e i z bytes ht hi hz hsize hby hzs h0 hsz hone v n l hown a u hok hu cs hcs h63 hbytes hbase
  unfold Oper.wp execOp
  simp only [hop, resolve, invoke, builtin, Sem.run_bind, Sem.run_pure, Result.andThen_ok, List.map_toArray, List.map_cons, List.map_nil, hs, hx, hrun]
  exact hK _ _ (h v' w' h2 h3 h4)
end

/-! ### facts, changes -/
end Go.Proofs.Ytlcdabmclcfagaa

/- Rows of the call's own with their values in sight. -/
namespace Go.Proofs.Ytlcdabmclcfagaa
open Go.RowKit

section
variable {α : Type} (cell : α → Value → List Value) (val : α → List UInt8) (ok : α → Prop) (sz : Nat)
def OwnPs (e : TypeId) (w : World) (base : Nat) (v : Value) (n : Nat) (ps : List (α × Value)) : Prop :=
  ps.length = n ∧ w.ownsRow base e sz v n (ps.flatMap fun p => cell p.1 p.2) ∧ ∀ p ∈ ps, ok p.1 ∧ ValB w v.ownBlock p.2 (val p.1)
end
section
variable {α : Type} {cell : α → Value → List Value} {val : α → List UInt8} {ok : α → Prop} {sz : Nat}
theorem OwnPs.list {e : TypeId} {w : World} {base : Nat} {v : Value} {n : Nat} {ps : List (α × Value)} (h : OwnPs cell val ok sz e w base v n ps) : OwnL cell val ok sz e w base v n (ps.map (·.1)) := ⟨ps, rfl, h.1, h.2.1, h.2.2⟩
theorem OwnPs.nil (e : TypeId) (w : World) (base : Nat) : OwnPs cell val ok sz e w base (.slice none 0 0) 0 [] := ⟨rfl, World.ownsRow_nil w base e sz, fun _ h => by cases h⟩
theorem OwnPs.blk {e : TypeId} {w : World} {base : Nat} {v : Value} {n : Nat} {ps : List (α × Value)} (h : OwnPs cell val ok sz e w base v n ps) {k : Nat} (hk : v.ownBlock = some k) : base ≤ k ∧ k < w.heap.size := h.2.1.lt k hk
theorem OwnPs.kept {e : TypeId} {w w' : World} {base : Nat} {v : Value} {n : Nat} {ps : List (α × Value)} {row : Option Nat} (h : OwnPs cell val ok sz e w base v n ps) (hg : w.grownBy w' row) (hne : v.ownBlock = none ∨ v.ownBlock ≠ row)
    (hv : ∀ p ∈ ps, ValB w row p.2 (val p.1)) : OwnPs cell val ok sz e w' base v n ps := by
  refine ⟨h.1, h.2.1.kept hg hne, fun p hp => ⟨(h.2.2 p hp).1, ?_⟩⟩
  obtain ⟨A, c, e1, hr, l1, l2, l3⟩ := (h.2.2 p hp).2
  obtain ⟨A', c', e1', hr', _, _, l3'⟩ := hv p hp
  rw [e1] at e1'
  injection e1' with e2 _ _
  subst e2
  exact ⟨A, c, e1, hr.grown hg (fun ad e hn => l3' ad e (by rwa [bv_length] at hn)), l1, l2, l3⟩
theorem OwnPs.below {e : TypeId} {w w' : World} {base : Nat} {v : Value} {n : Nat} {ps : List (α × Value)} (h : OwnPs cell val ok sz e w base v n ps) (hb : Below w.heap.size w w') : OwnPs cell val ok sz e w' base v n ps :=
  ⟨h.1, h.2.1.kept (grown_of_below hb none) (by cases v.ownBlock with | none => exact .inl rfl | some k => exact .inr (by simp)), fun p hp => ⟨(h.2.2 p hp).1, (h.2.2 p hp).2.below hb⟩⟩
theorem ValB.kept {w w' : World} {r1 r2 : Option Nat} {v : Value} {l : List UInt8} (h : ValB w r1 v l) (h2 : ValB w r2 v l) (hg : w.grownBy w' r2) : ValB w' r1 v l := by
  obtain ⟨A, c, e1, hr, l1, l2, l3⟩ := h
  obtain ⟨A', c', e1', hr', _, _, l3'⟩ := h2
  rw [e1] at e1'
  injection e1' with e2 _ _
  subst e2
  exact ⟨A, c, e1, hr.grown hg (fun ad e hn => l3' ad e (by rwa [bv_length] at hn)), l1, l2, l3⟩
/-- One element that was laid as a literal. -/
theorem run_appP1 {P : Program} (W : World) (base : Nat) (t ty e : TypeId) (i : TypeInfo) (z : Value) (bytes : Nat) (ht : P.underlying t = some (.slice e)) (hi : P.info? e = some i) (hz : i.zero = some z)
    (hsize : i.size = sz) (hby : i.bytes = bytes) (hzs : z.cells.size = sz) (h0 : 0 < sz) (hsz : ∀ a v, (cell a v).length = sz) (hone : ∀ a A n c, ∀ u ∈ cell a (.slice A n c), u.oneCell' = true)
    (v : Value) (n : Nat) (ps : List (α × Value)) (hown : OwnPs cell val ok sz e W base v n ps) (a : α) (u : Value) (hok : ok a) (hu : ValB W v.ownBlock u (val a)) (cs : Array Value) (hcs : cs = (cell a u).toArray)
    (h63 : n + 1 ≤ maxLen) (hbytes : ((n + 1) + (n + 1) / 4 + 192) * bytes ≤ 281474976710656) (hbase : base ≤ W.heap.size) :
    ∃ v' w', (Builtin.append_ #[t, t] ty #[v, .slice (some ⟨W.heap.size, 0, none⟩) 1 1]).run P (W.alloc (.cells cs e)) = .ok v' w' ∧ OwnPs cell val ok sz e w' base v' (n + 1) (ps ++ [(a, u)]) ∧ W.grownBy w' v.ownBlock ∧
      (v'.ownBlock = v.ownBlock ∨ ∃ k, v'.ownBlock = some k ∧ W.heap.size ≤ k) := by
  subst hcs
  obtain ⟨hn, ho, hp⟩ := hown
  have hnews : ∀ j x, (cell a u)[j]? = some x → (W.alloc (.cells (cell a u).toArray e)).cell? ((⟨W.heap.size, 0, none⟩ : Addr).add j) = some x := by
    intro j x hx
    rw [add_lit0, (Blk.new W e (cell a u).toArray).cell]
    simpa using hx
  have hone' : ∀ x ∈ cell a u, x.oneCell' = true := by
    obtain ⟨A, c, rfl, _⟩ := hu
    exact hone a A _ c
  obtain ⟨v', w', hrun, h2, h3, h4⟩ := run_appV (P := P) (W.alloc (.cells (cell a u).toArray e)) base t ty e i z sz bytes ht hi hz hsize hby hzs h0 v n _ (ho.alloc _) _ 1 1 (cell a u) (by rw [hsz]; omega) hnews hone' h63 hbytes (by rw [show (W.alloc (.cells (cell a u).toArray e)).heap.size = W.heap.size + 1 by simp]; omega)
  have hg : W.grownBy w' v.ownBlock := grown_trans (World.grownBy_alloc W _ _) h3
  refine ⟨v', w', hrun, ⟨by rw [List.length_append, hn]; rfl, by rw [List.flatMap_append]; simpa using h2, ?_⟩, hg, ?_⟩
  · have hall : ∀ p ∈ ps ++ [(a, u)], ok p.1 ∧ ValB W v.ownBlock p.2 (val p.1) := by
      intro p hp'
      rcases List.mem_append.1 hp' with hp' | hp'
      · exact hp p hp'
      · rw [List.mem_singleton] at hp'
        subst hp'
        exact ⟨hok, hu⟩
    intro p hp'
    obtain ⟨h5, h6⟩ := hall p hp'
    refine ⟨h5, ?_⟩
    rcases h4 with h4 | h4
    · rw [h4]
      exact h6.grown hg
    · obtain ⟨A, c, e1, hr, l1, l2, l3⟩ := h6
      refine ⟨A, c, e1, hr.grown hg (fun ad e hn => l3 ad e (by rwa [bv_length] at hn)), l1, l2, fun ad e hn he => ?_⟩
      have := hr.lt e (by rwa [bv_length])
      rw [h4] at he
      simp at he
      omega
  · rcases h4 with h4 | h4
    · exact .inl h4
    · exact .inr ⟨_, h4, by simp⟩
theorem wpList_appP1 {P : Program} (W : World) {ops : Array Oper} {rest : List Oper} {o : Oper} {a' : Act} {Q : Exit → Act → World → Prop} (hgd : o.guard = none) (s x : Operand) (t : TypeId)
    (hop : o.op = .call { callee := .builtin .append, args := #[s, x], argTypes := #[t, t] })
    (base : Nat) (e : TypeId) (i : TypeInfo) (z : Value) (bytes : Nat) (ht : P.underlying t = some (.slice e)) (hi : P.info? e = some i) (hz : i.zero = some z)
    (hsize : i.size = sz) (hby : i.bytes = bytes) (hzs : z.cells.size = sz) (h0 : 0 < sz) (hsz : ∀ a v, (cell a v).length = sz) (hone : ∀ a A n c, ∀ u ∈ cell a (.slice A n c), u.oneCell' = true)
    (v : Value) (n : Nat) (ps : List (α × Value)) (hs : a'.eval s = v) (hown : OwnPs cell val ok sz e W base v n ps) (a : α) (u : Value) (hx : a'.eval x = .slice (some ⟨W.heap.size, 0, none⟩) 1 1) (hok : ok a) (hu : ValB W v.ownBlock u (val a)) (cs : Array Value) (hcs : cs = (cell a u).toArray)
    (h63 : n + 1 ≤ maxLen) (hbytes : ((n + 1) + (n + 1) / 4 + 192) * bytes ≤ 281474976710656) (hbase : base ≤ W.heap.size)
    (h : ∀ v' w', OwnPs cell val ok sz e w' base v' (n + 1) (ps ++ [(a, u)]) → W.grownBy w' v.ownBlock → (v'.ownBlock = v.ownBlock ∨ ∃ k, v'.ownBlock = some k ∧ W.heap.size ≤ k) → wpList P ops Q rest (a'.put o.dst v') w') :
    wpList P ops Q (o :: rest) a' (W.alloc (.cells cs e)) := by
  refine wpList_plain hgd fun _ hK => ?_
  obtain ⟨v', w', hrun, h2, h3, h4⟩ := run_appP1 (P := P) W base t o.type e i z bytes ht hi hz hsize hby hzs h0 hsz hone v n ps hown a u hok hu cs hcs h63 hbytes hbase
  unfold Oper.wp execOp
  simp only [hop, resolve, invoke, builtin, Sem.run_bind, Sem.run_pure, Result.andThen_ok, List.map_toArray, List.map_cons, List.map_nil, hs, hx, hrun]
  exact hK _ _ (h v' w' h2 h3 h4)
theorem wpList_appP1H {P : Program} (W : World) {ops : Array Oper} {rest : List Oper} {o : Oper} {a' : Act} {Q : Exit → Act → World → Prop} (hgd : o.guard = none) (s x : Operand) (t : TypeId)
    (hop : o.op = .call { callee := .builtin .append, args := #[s, x], argTypes := #[t, t] })
    (base : Nat) (e : TypeId) (i : TypeInfo) (z : Value) (bytes : Nat) (ht : P.underlying t = some (.slice e)) (hi : P.info? e = some i) (hz : i.zero = some z)
    (hsize : i.size = sz) (hby : i.bytes = bytes) (hzs : z.cells.size = sz) (h0 : 0 < sz) (hsz : ∀ a v, (cell a v).length = sz) (hone : ∀ a A n c, ∀ u ∈ cell a (.slice A n c), u.oneCell' = true)
    (v : Value) (n : Nat) (ps : List (α × Value)) (hs : a'.eval s = v) (hown : OwnPs cell val ok sz e W base v n ps) (a : α) (u : Value) (H : Nat) (hH : W.heap.size = H) (hx : a'.eval x = .slice (some ⟨H, 0, none⟩) 1 1) (hok : ok a) (hu : ValB W v.ownBlock u (val a)) (cs : Array Value) (hcs : cs = (cell a u).toArray)
    (h63 : n + 1 ≤ maxLen) (hbytes : ((n + 1) + (n + 1) / 4 + 192) * bytes ≤ 281474976710656) (hbase : base ≤ W.heap.size)
    (h : ∀ v' w', OwnPs cell val ok sz e w' base v' (n + 1) (ps ++ [(a, u)]) → W.grownBy w' v.ownBlock → (v'.ownBlock = v.ownBlock ∨ ∃ k, v'.ownBlock = some k ∧ W.heap.size ≤ k) → wpList P ops Q rest (a'.put o.dst v') w') :
    wpList P ops Q (o :: rest) a' (W.alloc (.cells cs e)) := by
  subst hH
  exact wpList_appP1 W hgd s x t hop base e i z bytes ht hi hz hsize hby hzs h0 hsz hone v n ps hs hown a u hx hok hu cs hcs h63 hbytes hbase h
end

end Go.Proofs.Ytlcdabmclcfagaa
