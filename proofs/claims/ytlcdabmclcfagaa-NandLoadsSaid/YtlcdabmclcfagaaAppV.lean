/- append onto rows of the call's own of whatever elements: where the new row lies. -/
import Derived.Test.YtlcdabmclcfagaaMem
import Derived.Test.YtlcdabmclcfagaaFrame
import Derived.Deep.DeepAppendWide
import Derived.Deep.AppendLies
set_option linter.unusedVariables false
set_option linter.unusedSimpArgs false
namespace Go.Proofs.Ytlcdabmclcfagaa
open Go.RowKit

theorem run_appV {P : Program} (w : World) (base : Nat) (t ty e : TypeId) (i : TypeInfo) (z : Value) (size bytes : Nat) (ht : P.underlying t = some (.slice e)) (hi : P.info? e = some i) (hz : i.zero = some z)
    (hsize : i.size = size) (hby : i.bytes = bytes) (hzs : z.cells.size = size) (hsz : 0 < size)
    (v : Value) (n : Nat) (xs : List Value) (hown : w.ownsRow base e size v n xs)
    (a : Addr) (m c : Nat) (news : List Value) (hl : news.length = m * size) (hnews : ∀ j u, news[j]? = some u → w.cell? (a.add j) = some u) (h1 : ∀ u ∈ news, u.oneCell' = true)
    (h63 : n + m ≤ maxLen) (hbytes : ((n + m) + (n + m) / 4 + 192) * bytes ≤ 281474976710656) (hbase : base ≤ w.heap.size) :
    ∃ v' w', (Builtin.append_ #[t, t] ty #[v, .slice (some a) m c]).run P w = .ok v' w' ∧ w'.ownsRow base e size v' (n + m) (xs ++ news) ∧ w.grownBy w' v.ownBlock ∧
      (v'.ownBlock = v.ownBlock ∨ v'.ownBlock = some w.heap.size) := by
  obtain ⟨v', w', hrun, ho, hg, _⟩ := run_append_own_wide (P := P) w base t ty e i z size bytes ht hi hz hsize hby hzs hsz v n xs hown a m c news hl hnews h1 h63 hbytes hbase
  refine ⟨v', w', hrun, ho, hg, ?_⟩
  subst hsize
  subst hby
  rcases hown.2 with ⟨rfl, rfl⟩ | ⟨g, cap, cur, rfl, hbg, hgr, hnc, hcm, hcs, htake⟩
  · by_cases hm : m = 0
    · subst hm
      left
      have hn : news = [] := List.eq_nil_of_length_eq_zero (by simpa using hl)
      have h2 : (Builtin.append_ #[t, t] ty #[.slice none 0 0, .slice (some a) 0 c]).run P w = .ok (.slice none 0 0) w := by
        simp [Builtin.append_, run_underlying ht, sizeOf, typeInfo, hi, Builtin.lenOf, Builtin.firstCells, loadCells, loadCellsFrom]
      rw [h2] at hrun
      injection hrun with h3 _
      rw [← h3]
    · right
      have hb := hbytes
      simp only [Nat.zero_add] at hb
      have hr := run_append_nil (P := P) w t ty e i z ht hi hz a m c news hl hnews (by omega) (by simp only [maxLen] at h63; omega) (Nat.le_trans (Nat.mul_le_mul_right _ (by omega)) hb)
      rw [hr] at hrun
      injection hrun with h3 _
      rw [← h3]
      rfl
  · by_cases hroom : n + m ≤ cap
    · left
      have hfit : n * i.size + news.length ≤ cur.size := by rw [hl, hcs, ← Nat.add_mul]; exact Nat.mul_le_mul_right _ hroom
      have hr := run_append_room (P := P) w t ty e i ht hi g n cap cur hgr a m c news hl hnews h1 hroom hfit
      rw [hr] at hrun
      injection hrun with h3 _
      rw [← h3]
      rfl
    · right
      have holds : ∀ j u, xs[j]? = some u → w.cell? ((⟨g, 0, none⟩ : Addr).add j) = some u := hown.cells (g := g) rfl
      have hr := run_append_grow (P := P) w t ty e i z ht hi hz ⟨g, 0, none⟩ n cap xs hown.1 holds a m c news hl hnews (by omega) (by simp only [maxLen] at h63; omega) (growslice_fits_wide (by omega) hbytes)
      rw [hr] at hrun
      injection hrun with h3 _
      rw [← h3]
      rfl

/-! ### lists of elements that hold bytes -/
/-- A slice of bytes that reads, not in a block. -/
def ValB (w : World) (row : Option Nat) (v : Value) (l : List UInt8) : Prop :=
  ∃ A c, v = .slice A l.length c ∧ RV w A (bv l) ∧ l.length ≤ c ∧ c ≤ maxLen ∧ ∀ ad, A = some ad → 0 < l.length → some ad.block ≠ row
theorem ValB.grown {w w' : World} {row : Option Nat} {v : Value} {l : List UInt8} (h : ValB w row v l) (hg : w.grownBy w' row) : ValB w' row v l := by
  obtain ⟨A, c, hv, hr, h1, h2, h3⟩ := h
  exact ⟨A, c, hv, hr.grown hg (fun ad e hn => h3 ad e (by rwa [bv_length] at hn)), h1, h2, h3⟩
theorem ValB.below {w w' : World} {row : Option Nat} {v : Value} {l : List UInt8} (h : ValB w row v l) (hb : Below w.heap.size w w') : ValB w' row v l := by
  obtain ⟨A, c, hv, hr, h1, h2, h3⟩ := h
  exact ⟨A, c, hv, hr.below hb, h1, h2, h3⟩
/-- A row that is not there yet. -/
theorem ValB.fresh {w : World} {row : Option Nat} {v : Value} {l : List UInt8} (h : ValB w row v l) {k : Nat} (hk : w.heap.size ≤ k) : ValB w (some k) v l := by
  obtain ⟨A, c, hv, hr, h1, h2, h3⟩ := h
  exact ⟨A, c, hv, hr, h1, h2, fun ad e hn he => by
    have := hr.lt e (by rwa [bv_length])
    injection he with he
    omega⟩
theorem ValB.none_ {w : World} {row : Option Nat} {v : Value} {l : List UInt8} (h : ValB w row v l) : ValB w none v l := by
  obtain ⟨A, c, hv, hr, h1, h2, h3⟩ := h
  exact ⟨A, c, hv, hr, h1, h2, fun _ _ _ he => by cases he⟩

section
variable {α : Type} (cell : α → Value → List Value) (val : α → List UInt8) (ok : α → Prop) (sz : Nat)
/-- A slice of elements that reads as a list. -/
def ListIn (w : World) (A : Option Addr) (n : Nat) (l : List α) : Prop :=
  l.length = n ∧ ∀ i a, l[i]? = some a → ok a ∧ ∃ ad v, A = some ad ∧ ValB w none v (val a) ∧ ∀ k u, (cell a v)[k]? = some u → w.cell? ((ad.add (i * sz)).add k) = some u
/-- A slice of elements of the call's own. -/
def OwnL (e : TypeId) (w : World) (base : Nat) (v : Value) (n : Nat) (l : List α) : Prop :=
  ∃ ps : List (α × Value), ps.map (·.1) = l ∧ ps.length = n ∧ w.ownsRow base e sz v n (ps.flatMap fun p => cell p.1 p.2) ∧ ∀ p ∈ ps, ok p.1 ∧ ValB w v.ownBlock p.2 (val p.1)
end
section
variable {α : Type} {cell : α → Value → List Value} {val : α → List UInt8} {ok : α → Prop} {sz : Nat}
theorem ListIn.below {w w' : World} {A : Option Addr} {n : Nat} {l : List α} (hsz : ∀ a v, (cell a v).length = sz) (h0 : 0 < sz) (h : ListIn cell val ok sz w A n l) (hb : Below w.heap.size w w') : ListIn cell val ok sz w' A n l := by
  refine ⟨h.1, fun i a ha => ?_⟩
  obtain ⟨h1, ad, v, h2, h3, h4⟩ := h.2 i a ha
  refine ⟨h1, ad, v, h2, h3.below hb, fun k u hu => ?_⟩
  have hc := h4 k u hu
  have hlt := World.block_lt_of_cell? w _ hc
  exact (World.cell?_of_block (hb.block _ hlt)).trans hc
theorem ListIn.grown {w w' : World} {A : Option Addr} {n : Nat} {l : List α} {row : Option Nat} (h : ListIn cell val ok sz w A n l) (hg : w.grownBy w' row) (hA : ∀ ad, A = some ad → some ad.block ≠ row)
    (hv : ∀ i a ad v, l[i]? = some a → A = some ad → ValB w none v (val a) → (∀ k u, (cell a v)[k]? = some u → w.cell? ((ad.add (i * sz)).add k) = some u) → ValB w row v (val a)) : ListIn cell val ok sz w' A n l := by
  refine ⟨h.1, fun i a ha => ?_⟩
  obtain ⟨h1, ad, v, h2, h3, h4⟩ := h.2 i a ha
  refine ⟨h1, ad, v, h2, ((hv i a ad v ha h2 h3 h4).grown hg).none_, fun k u hu => ?_⟩
  exact hg.cell (h4 k u hu) (by rw [block_add, block_add]; exact hA ad h2)
theorem OwnL.nil (e : TypeId) (w : World) (base : Nat) : OwnL cell val ok sz e w base (.slice none 0 0) 0 [] := ⟨[], rfl, rfl, World.ownsRow_nil w base e sz, fun _ h => by cases h⟩
theorem OwnL.len {e : TypeId} {w : World} {base : Nat} {v : Value} {n : Nat} {l : List α} (h : OwnL cell val ok sz e w base v n l) : l.length = n := by
  obtain ⟨ps, rfl, rfl, _, _⟩ := h
  simp
theorem OwnL.blk {e : TypeId} {w : World} {base : Nat} {v : Value} {n : Nat} {l : List α} (h : OwnL cell val ok sz e w base v n l) {k : Nat} (hk : v.ownBlock = some k) : base ≤ k ∧ k < w.heap.size := by
  obtain ⟨ps, _, _, h3, _⟩ := h
  exact h3.lt k hk
theorem OwnL.kept {e : TypeId} {w w' : World} {base : Nat} {v : Value} {n : Nat} {l : List α} {row : Option Nat} (h : OwnL cell val ok sz e w base v n l) (hg : w.grownBy w' row) (hne : v.ownBlock = none ∨ v.ownBlock ≠ row)
    (hv : ∀ u x, ValB w v.ownBlock u x → ValB w row u x) : OwnL cell val ok sz e w' base v n l := by
  obtain ⟨ps, h1, h2, h3, h4⟩ := h
  refine ⟨ps, h1, h2, h3.kept hg hne, fun p hp => ⟨(h4 p hp).1, ?_⟩⟩
  obtain ⟨A, c, e1, hr, l1, l2, l3⟩ := (h4 p hp).2
  obtain ⟨A', c', e1', hr', _, _, l3'⟩ := hv _ _ (h4 p hp).2
  rw [e1] at e1'
  injection e1' with e2 _ _
  subst e2
  exact ⟨A, c, e1, hr.grown hg (fun ad e hn => l3' ad e (by rwa [bv_length] at hn)), l1, l2, l3⟩
theorem OwnL.below {e : TypeId} {w w' : World} {base : Nat} {v : Value} {n : Nat} {l : List α} (h : OwnL cell val ok sz e w base v n l) (hb : Below w.heap.size w w') : OwnL cell val ok sz e w' base v n l := by
  obtain ⟨ps, h1, h2, h3, h4⟩ := h
  refine ⟨ps, h1, h2, h3.kept (grown_of_below hb none) ?_, fun p hp => ⟨(h4 p hp).1, (h4 p hp).2.below hb⟩⟩
  cases v.ownBlock with
  | none => exact .inl rfl
  | some k => exact .inr (by simp)
theorem OwnL.lower {e : TypeId} {w : World} {base b : Nat} {v : Value} {n : Nat} {l : List α} (h : OwnL cell val ok sz e w base v n l) (hb : b ≤ base) : OwnL cell val ok sz e w b v n l := by
  obtain ⟨ps, h1, h2, h3, h4⟩ := h
  refine ⟨ps, h1, h2, ⟨h3.1, ?_⟩, h4⟩
  rcases h3.2 with h | ⟨g, cap, cur, e1, e2, e3⟩
  · exact .inl h
  · exact .inr ⟨g, cap, cur, e1, Nat.le_trans hb e2, e3⟩
end
end Go.Proofs.Ytlcdabmclcfagaa
