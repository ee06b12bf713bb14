import Derived.Test.YtlcdabmclcfagaaMBase
import Derived.Test.YtlcdabmclcfagaaOwnGM
set_option linter.unusedVariables false
set_option linter.unusedSimpArgs false
/- Bytes that become others, the room behind them, too. -/
namespace Go.Proofs.Ytlcdabmclcfagaa
open Go.RowKit

theorem map_set_take {f : UInt8 → UInt8} {full : List UInt8} {j : Nat} {b : UInt8} (hb : full[j]? = some b) : (((full.take j).map f ++ full.drop j).set j (f b)) = (full.take (j + 1)).map f ++ full.drop (j + 1) := by
  have hj : j < full.length := (List.getElem?_eq_some_iff.1 hb).1
  have hbe : full[j] = b := by
    rw [List.getElem?_eq_getElem hj] at hb
    exact Option.some.inj hb
  rw [List.set_append_right _ _ (by simp; omega), List.drop_eq_getElem_cons hj, hbe, List.take_add_one, hb]
  have e : j - ((full.take j).map f).length = 0 := by rw [List.length_map, List.length_take]; omega
  rw [e]
  simp
theorem map_get_at {f : UInt8 → UInt8} {full : List UInt8} {j : Nat} (hj : j < full.length) : ((full.take j).map f ++ full.drop j)[j]? = some full[j] := by
  rw [List.getElem?_append_right (by simp; omega)]
  have e : j - ((full.take j).map f).length = 0 := by rw [List.length_map, List.length_take]; omega
  rw [e, List.drop_eq_getElem_cons hj]
  rfl

def SpoilRow (w : World) (g : Nat) (full : List UInt8) (e : Ending) (w' : World) : Prop :=
  e = .returned (.tuple #[]) ∧ RowB 5 w' g full ∧ w.grownBy w' (some g)

set_option maxHeartbeats 1000000 in
theorem spoil_row (w : World) (g n : Nat) (full : List UInt8) (b : UInt8) (hr : RowB 5 w g full) (hm : full.length ≤ maxLen) (hn : n ≤ full.length) :
    Calls Try.prog 28 #[.slice (some ⟨g, 0, none⟩) n full.length, .int .u8 (b.toNat : Int)] w (SpoilRow w g (full.map (· + b))) := by
  unfold maxLen at hm
  have HR := Lib.hid hr
  clear hr
  have hb256 := b.toNat_lt
  go_enter Try.func28, Try.ntmps28
  go_wp2_with fail
  go_loopg [5] full.length (fun k i wr => ∃ j : Nat, j + k = full.length ∧ i = .int .i64 j ∧ RowB 5 wr g ((full.take j).map (· + b) ++ full.drop j) ∧ w.grownBy wr (some g))
  case atStart => exact ⟨0, by omega, rfl, by simpa using HR.out, World.grownBy.refl _ _⟩
  case round =>
    obtain ⟨j, hj, rfl, hrow, hg⟩ := hrel
    have hf := hrow.frozen j
    have HX := Lib.hid (show j + gk = full.length ∧ RowB 5 wr g ((full.take j).map (· + b) ++ full.drop j) ∧ w.grownBy wr (some g) from ⟨hj, hrow, hg⟩)
    by_cases hlt : j < full.length
    · have hcur := hrow.cell (map_get_at (f := (· + b)) hlt)
      have hst := map_set_take (f := (· + b)) (List.getElem?_eq_getElem hlt)
      have hadd : ((full[j].toNat : Int) + b.toNat) % 256 = ((full[j] + b).toNat : Int) := by
        rw [UInt8.toNat_add]
        omega
      have hx := full[j].toNat_lt
      generalize full[j] = x at hcur hst hadd hx
      have HY := Lib.hid (And.intro hst hadd)
      clear hj hrow hg hst hadd
      go_wp2_with fail
      obtain ⟨hj, hrow, hg⟩ := HX.out
      go_roundg (full.length - (j + 1))
      case measure => omega
      case rel => exact ⟨j + 1, by omega, by go_num, by rw [← HY.out.1]; exact hrow.set' j HY.out.2, grown_trans hg (grown_setCell _ _ _ _)⟩
    · obtain rfl : j = full.length := by omega
      clear hj hrow hg
      go_wp2_with fail
      go_end0
      obtain ⟨hj, hrow, hg⟩ := HX.out
      rw [List.take_length, List.drop_length, List.append_nil] at hrow
      exact ⟨rfl, hrow, hg⟩

theorem spoil_nil (w : World) (b : UInt8) :
    Calls Try.prog 28 #[.slice none 0 0, .int .u8 (b.toNat : Int)] w fun e w' => e = .returned (.tuple #[]) ∧ w = w' := by
  go_enter Try.func28, Try.ntmps28
  go_wp2_with fail
  go_loopg [5] 0 (fun k i wr => i = .int .i64 0 ∧ wr = w)
  case atStart => exact ⟨rfl, rfl⟩
  case round =>
    obtain ⟨rfl, rfl⟩ := hrel
    go_wp2_with fail
    go_end0
    exact ⟨rfl, rfl⟩

theorem spoil_at (w : World) (g n m : Nat) (full : List UInt8) (y : Int) (b : UInt8) (hy : y = (b.toNat : Int)) (hr : RowB 5 w g full) (hm : full.length = m) (hmm : m ≤ maxLen) (hn : n ≤ m) :
    Calls Try.prog 28 #[.slice (some ⟨g, 0, none⟩) n m, .int .u8 y] w (SpoilRow w g (full.map (· + b))) := by
  subst hm
  subst hy
  exact spoil_row w g n full b hr hmm hn
def SpoilEnd (w : World) (v : Value) (e : Ending) (w' : World) : Prop := e = .returned (.tuple #[]) ∧ w.grownBy w' v.ownBlock
theorem spoil_own (w : World) (base : Nat) (v : Value) (xs : List UInt8) (y : Int) (b : UInt8) (hy : y = (b.toNat : Int)) (h : OwnB 5 w base v xs) :
    Calls Try.prog 28 #[v, .int .u8 y] w (SpoilEnd w v) := by
  subst hy
  rcases h with ⟨rfl, rfl⟩ | ⟨g, full, rfl, hb, hr, ht, hm⟩
  · exact (spoil_nil w b).mono fun e w' ⟨he, hw⟩ => ⟨he, hw ▸ World.grownBy.refl _ _⟩
  · exact (spoil_row w g xs.length full b hr hm (OwnB.len (g := g) ht)).mono fun e w' ⟨he, _, hg⟩ => ⟨he, hg⟩
end Go.Proofs.Ytlcdabmclcfagaa

/- Values that become others one by one: the row that holds them stays. -/
namespace Go.Proofs.Ytlcdabmclcfagaa
open Go.RowKit

/-- Bytes of the call's own, whatever they are. -/
def SpV (w : World) (base : Nat) (v : Value) : Prop := ∃ xs, OwnB 5 w base v xs
theorem SpB.spv {w : World} {base : Nat} {v : Value} {x : List UInt8} (h : SpB w base v x) : SpV w base v := by
  rcases h with ⟨rfl, rfl⟩ | ⟨_, h⟩
  · exact ⟨[], OwnB.nil _ _ _⟩
  · exact ⟨x, h⟩
def SpoilV (w : World) (base : Nat) (v : Value) (e : Ending) (w' : World) : Prop := e = .returned (.tuple #[]) ∧ w.grownBy w' v.ownBlock ∧ ∀ u, SpV w base u → SpV w' base u
theorem spoil_spv (w : World) (base : Nat) (v : Value) (y : Int) (b : UInt8) (hy : y = (b.toNat : Int)) (h : SpV w base v) :
    Calls Try.prog 28 #[v, .int .u8 y] w (SpoilV w base v) := by
  subst hy
  obtain ⟨xs, h⟩ := h
  rcases h with ⟨rfl, rfl⟩ | ⟨g, full, rfl, hb, hr, ht, hm⟩
  · exact (spoil_nil w b).mono fun e w' ⟨he, hw⟩ => ⟨he, hw ▸ World.grownBy.refl _ _, fun u hu => hw ▸ hu⟩
  · refine (spoil_row w g xs.length full b hr hm (OwnB.len (g := g) ht)).mono fun e w' ⟨he, hr', hg⟩ => ⟨he, hg, fun u hu => ?_⟩
    obtain ⟨ys, hu⟩ := hu
    rcases hu with ⟨rfl, rfl⟩ | ⟨g2, full2, rfl, hb2, hr2, ht2, hm2⟩
    · exact ⟨[], OwnB.nil _ _ _⟩
    · by_cases hgg : g2 = g
      · subst hgg
        have hff : full2 = full := by
          have h1 : w.heap[g2]? = some (.cells (bv full2).toArray 5 (0, 0)) := hr2
          have h2 : w.heap[g2]? = some (.cells (bv full).toArray 5 (0, 0)) := hr
          rw [h1] at h2
          injection h2 with h2
          injection h2 with h2
          exact bv_inj (by simpa using h2)
        subst hff
        have hl2 := OwnB.len (g := g2) ht2
        refine ⟨(full2.map (· + b)).take ys.length, ?_⟩
        have hlen : ((full2.map (· + b)).take ys.length).length = ys.length := by rw [List.length_take, List.length_map]; omega
        refine .inr ⟨g2, full2.map (· + b), ?_, hb2, hr', ?_, ?_⟩
        · rw [hlen, List.length_map]
        · rw [hlen]
        · rw [List.length_map]; exact hm2
      · exact ⟨ys, (show OwnB 5 w base _ ys from .inr ⟨g2, full2, rfl, hb2, hr2, ht2, hm2⟩).kept hg (.inr fun e => hgg (by injection e))⟩

section
variable {α : Type} (cell : α → Value → List Value) (sz : Nat)
/-- A row whose values may be spoilt. -/
def SpRow (w : World) (base : Nat) (A : Option Addr) (n : Nat) (ps : List (α × Value)) : Prop :=
  ps.length = n ∧ (∀ p ∈ ps, SpV w base p.2 ∧ ∀ g, p.2.ownBlock = some g → base ≤ g ∧ ∀ ad, A = some ad → ad.block ≠ g) ∧
    ∀ i p, ps[i]? = some p → ∃ ad, A = some ad ∧ ∀ k u, (cell p.1 p.2)[k]? = some u → w.cell? ((ad.add (i * sz)).add k) = some u
end
section
variable {α : Type} {cell : α → Value → List Value} {val : α → List UInt8} {ok : α → Prop} {sz : Nat}
theorem OwnG.sp {w : World} {base : Nat} {A : Option Addr} {n c : Nat} {ps : List (α × Value)} (h : OwnG cell val ok sz w base (.slice A n c) n ps) : SpRow cell sz w base A n ps := by
  obtain ⟨h1, A', c', h2, h3, h4, h5, h6, h7⟩ := h
  injection h2 with e1 _ e3
  subst e1 e3
  refine ⟨h1, fun p hp => ?_, h7⟩
  obtain ⟨_, hs, hv⟩ := h6 p hp
  refine ⟨hs.spv, fun g hg => ?_⟩
  rcases hs with ⟨e, _⟩ | ⟨hx, ho⟩
  · rw [e] at hg
    cases hg
  · refine ⟨(ho.blk hg).1, fun ad hA e => ?_⟩
    obtain ⟨B, d, e1, hr, _, _, l3⟩ := hv
    have hx0 : 0 < (val p.1).length := List.length_pos_iff.2 hx
    obtain ⟨ad', hB, _⟩ := hr (by rw [bv_length]; exact hx0)
    have := l3 ad' hB hx0
    rw [e1, hB] at hg
    injection hg with hg
    apply this
    rw [hA]
    show some ad'.block = some ad.block
    rw [hg, e]
theorem SpRow.spoilt {w w' : World} {base : Nat} {A : Option Addr} {n : Nat} {ps : List (α × Value)} (h : SpRow cell sz w base A n ps) {v : Value} (hv : ∀ g, v.ownBlock = some g → ∀ ad, A = some ad → ad.block ≠ g) (hg : w.grownBy w' v.ownBlock) (hs : ∀ u, SpV w base u → SpV w' base u) : SpRow cell sz w' base A n ps := by
  obtain ⟨h1, h2, h3⟩ := h
  refine ⟨h1, fun p hp => ⟨hs _ (h2 p hp).1, (h2 p hp).2⟩, fun i p hp => ?_⟩
  obtain ⟨ad, hA, hc⟩ := h3 i p hp
  refine ⟨ad, hA, fun k u hu => ?_⟩
  have h8 := hc k u hu
  have hlt := World.block_lt_of_cell? w _ h8
  have hbk : ((ad.add (i * sz)).add k).block = ad.block := by rw [block_add, block_add]
  refine (World.cell?_of_block (hg.block _ hlt fun e => ?_)).trans h8
  rw [hbk] at e
  exact hv _ e.symm ad hA rfl
theorem SpRow.below {w w' : World} {base : Nat} {A : Option Addr} {n : Nat} {ps : List (α × Value)} (h : SpRow cell sz w base A n ps) (hb : Below w.heap.size w w') : SpRow cell sz w' base A n ps := by
  obtain ⟨h1, h2, h3⟩ := h
  refine ⟨h1, fun p hp => ⟨(h2 p hp).1.imp fun xs ho => ho.below hb, (h2 p hp).2⟩, fun i p hp => ?_⟩
  obtain ⟨ad, hA, hc⟩ := h3 i p hp
  refine ⟨ad, hA, fun k u hu => ?_⟩
  have h8 := hc k u hu
  exact (World.cell?_of_block (hb.block _ (World.block_lt_of_cell? w _ h8))).trans h8
/-- A value of the call's own that lies in no row. -/
def OffR (w : World) (base : Nat) (row : Option Nat) (v : Value) (x : List UInt8) : Prop := OwnB 5 w base v x ∧ (v.ownBlock = none ∨ v.ownBlock ≠ row)
theorem OffR.below {w w' : World} {base : Nat} {row : Option Nat} {v : Value} {x : List UInt8} (h : OffR w base row v x) (hb : Below w.heap.size w w') : OffR w' base row v x := ⟨h.1.below hb, h.2⟩
theorem OffR.far {w w' : World} {base g : Nat} {row : Option Nat} {v : Value} {x : List UInt8} (h : OffR w base row v x) (hg : w.grownBy w' (some g)) (hlt : g < base) : OffR w' base row v x := ⟨h.1.kept hg (.inr fun e => by have := (h.1.blk e).1; omega), h.2⟩
theorem OffR.app {w w' : World} {base : Nat} {r r' : Value} {v : Value} {x : List UInt8} (h : OffR w base r.ownBlock v x) (hg : w.grownBy w' r.ownBlock) (hr : r'.ownBlock = r.ownBlock ∨ ∃ k, r'.ownBlock = some k ∧ w.heap.size ≤ k) : OffR w' base r'.ownBlock v x := by
  refine ⟨h.1.kept hg h.2, ?_⟩
  rcases hr with hr | ⟨k, hr, hk⟩
  · rw [hr]
    exact h.2
  · cases hv : v.ownBlock with
    | none => exact .inl rfl
    | some g =>
      right
      rw [hr]
      intro e
      injection e with e
      have := (h.1.blk hv).2
      omega
theorem OffR.valB {w : World} {base : Nat} {row row' : Option Nat} {v : Value} {x : List UInt8} (h : OffR w base row v x) (hr : ∀ k, row' = some k → k < base) : ValB w row' v x := by
  obtain ⟨A, c, hv, hrv, l1, l2, l3⟩ := h.1.slice
  refine ⟨A, c, hv, hrv, l1, l2, fun ad e1 hn he => ?_⟩
  have h1 := h.1.blk (l3 ad e1).symm
  have h2 := hr _ he.symm
  omega
theorem OffR.lower {w : World} {base b : Nat} {row : Option Nat} {v : Value} {x : List UInt8} (h : OffR w base row v x) (hb : b ≤ base) : OffR w b row v x := ⟨h.1.lower hb, h.2⟩
theorem OwnPs.spRow {e : TypeId} {w : World} {base : Nat} {v : Value} {n : Nat} {ps : List (α × Value)} (hsz : ∀ a v, (cell a v).length = sz) (h : OwnPs cell val ok sz e w base v n ps) (hv : ∀ p ∈ ps, OffR w base v.ownBlock p.2 (val p.1)) :
    ∃ A c, v = .slice A n c ∧ n ≤ c ∧ c ≤ maxLen ∧ SpRow cell sz w base A n ps := by
  obtain ⟨hn, hown, hp⟩ := h
  rcases hown.2 with ⟨hv', h0'⟩ | ⟨g, cap, cur, hv', hb, hg, hnc, hcm, hcs, htake⟩
  · have h0 : n = 0 := by rw [← hn]; have := hown.1; subst hv'; omega
    subst h0
    obtain rfl : ps = [] := List.eq_nil_of_length_eq_zero hn
    exact ⟨none, 0, hv', Nat.le_refl _, by decide, rfl, fun _ h => (by cases h), fun i p h => by simp at h⟩
  · refine ⟨some ⟨g, 0, none⟩, cap, hv', hnc, hcm, hn, fun p hpm => ⟨⟨_, (hv p hpm).1⟩, fun k hk => ⟨((hv p hpm).1.blk hk).1, fun ad e e2 => ?_⟩⟩, fun i p hpi => ⟨_, rfl, fun k u hu => ?_⟩⟩
    · injection e with e
      rcases (hv p hpm).2 with h2 | h2
      · rw [h2] at hk
        cases hk
      · apply h2
        rw [hk, hv', ← e2, ← e]
        rfl
    · have hk : k < sz := by rw [← hsz p.1 p.2]; exact (List.getElem?_eq_some_iff.1 hu).1
      rw [add_add]
      refine hown.cells (g := g) (by rw [hv']; rfl) _ _ ?_
      rw [flat_get (f := fun p : α × Value => cell p.1 p.2) (fun p => hsz p.1 p.2) k hk, hpi]
      exact hu
end
end Go.Proofs.Ytlcdabmclcfagaa
