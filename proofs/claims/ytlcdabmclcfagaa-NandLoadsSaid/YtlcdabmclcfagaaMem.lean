/- Words for memory: a slice that reads as a list of cells; bytes as cells; rows of bytes that are known whole; append onto them. Plain lemmas, no program in sight. -/
import Derived.WalkKit
import Derived.WalkSpells
import Derived.WalkLawsBesides
import Derived.Deep.AppendLies
import Derived.Deep.Draws
import Derived.Deep.LoopGhost
import Derived.Lib.Hide
import Derived.Deep.OwnRows
import Derived.Maps.AppendAt
import Derived.KernelRfl
set_option linter.unusedVariables false
set_option linter.unusedSimpArgs false
namespace Go.Proofs.Ytlcdabmclcfagaa
open Go.RowKit

/-! ### bytes as values -/
def bv (l : List UInt8) : List Value := l.map fun b => .int .u8 (b.toNat : Int)
theorem bv_length (l : List UInt8) : (bv l).length = l.length := by simp [bv]
theorem bv_append (l m : List UInt8) : bv (l ++ m) = bv l ++ bv m := by simp [bv]
theorem bv_take (l : List UInt8) (n : Nat) : bv (l.take n) = (bv l).take n := by simp [bv]
theorem bv_drop (l : List UInt8) (n : Nat) : bv (l.drop n) = (bv l).drop n := by simp [bv]
theorem bv_get (l : List UInt8) (j : Nat) : (bv l)[j]? = (l[j]?).map fun b => Value.int .u8 (b.toNat : Int) := by simp [bv]
theorem bv_set (l : List UInt8) (j : Nat) (b : UInt8) : bv (l.set j b) = (bv l).set j (.int .u8 (b.toNat : Int)) := by simp [bv, List.map_set]
theorem bv_oneCell (l : List UInt8) : ∀ u ∈ bv l, u.oneCell' = true := by
  intro u hu
  obtain ⟨_, _, rfl⟩ := List.mem_map.1 hu
  rfl
theorem bv_inj {l m : List UInt8} (h : bv l = bv m) : l = m := by
  have hf : ∀ a b : UInt8, (Value.int .u8 (a.toNat : Int)) = .int .u8 (b.toNat : Int) → a = b := by
    intro a b h
    injection h with _ h
    exact UInt8.toNat.inj (by omega)
  exact (List.map_inj_right hf).1 h

/-! ### endings and worlds -/
theorem ret_bool {a b : Bool} (h : a = b) : Ending.returned (.bool a) = .returned (.bool b) := by rw [h]
theorem ret_int {k : IntKind} {a b : Int} (h : a = b) : Ending.returned (.int k a) = .returned (.int k b) := by rw [h]
/-- Some orders have been drawn, nothing else. -/
def Drawn (w w' : World) : Prop := ∃ n, w' = w.drewN n
theorem Drawn.refl (w : World) : Drawn w w := ⟨0, rfl⟩
theorem Drawn.mk (w : World) (n : Nat) : Drawn w (w.drewN n) := ⟨n, rfl⟩
theorem Drawn.step {w w' : World} (h : Drawn w w') (n : Nat) : Drawn w (w'.drewN n) := by
  obtain ⟨m, rfl⟩ := h
  exact ⟨m + n, World.drewN_drewN ..⟩
theorem Drawn.trans {a b c : World} (h : Drawn a b) (k : Drawn b c) : Drawn a c := by
  obtain ⟨n, rfl⟩ := k
  exact h.step n
theorem below_drewN {B : Nat} {w w' : World} (h : Below B w w') (n : Nat) : Below B w (w'.drewN n) := ⟨h.os, h.tape, h.output, h.size, h.block⟩
theorem Drawn.below {w w' : World} (h : Drawn w w') (B : Nat) : Below B w w' := by
  obtain ⟨n, rfl⟩ := h
  exact below_drewN (Below.refl _ _) n
theorem Drawn.heap {w w' : World} (h : Drawn w w') : w'.heap = w.heap := by
  obtain ⟨n, rfl⟩ := h
  rfl
theorem below_then {B : Nat} {w w1 w2 : World} (h : Below B w w1) (hB : B ≤ w1.heap.size) (k : Below w1.heap.size w1 w2) : Below B w w2 :=
  h.trans ⟨k.os, k.tape, k.output, k.size, fun i hi => k.block i (Nat.lt_of_lt_of_le hi hB)⟩

/-! ### addresses -/
theorem block_add (a : Addr) (n : Nat) : (a.add n).block = a.block := by unfold Addr.add; split <;> rfl
theorem add_zero (a : Addr) : a.add 0 = a := by unfold Addr.add; simp
theorem add_add (a : Addr) (i j : Nat) : (a.add i).add j = a.add (i + j) := by
  unfold Addr.add
  by_cases hi : i = 0 <;> by_cases hj : j = 0 <;> simp [hi, hj, Nat.add_assoc]
theorem add_lit0 (g j : Nat) : (⟨g, 0, none⟩ : Addr).add j = ⟨g, j, none⟩ := by unfold Addr.add; split <;> simp_all

/-! ### a slice that reads as a list of cells (nil, empty and other slices alike) -/
def RV (w : World) (A : Option Addr) (cs : List Value) : Prop :=
  0 < cs.length → ∃ ad, A = some ad ∧ ∀ j u, cs[j]? = some u → w.cell? (ad.add j) = some u

section
variable {w w' : World} {A : Option Addr} {cs : List Value}
theorem RV.nil (w : World) (A : Option Addr) : RV w A [] := fun h => absurd h (by simp)
theorem RV.at_ (h : RV w A cs) {k : Nat} (hk : k < cs.length) : ∃ ad, A = some ad ∧ w.cell? (ad.add k) = some cs[k] := by
  obtain ⟨ad, e, hc⟩ := h (by omega)
  exact ⟨ad, e, hc k _ (List.getElem?_eq_getElem hk)⟩
theorem RV.keep (h : RV w A cs) (hk : ∀ ad, A = some ad → 0 < cs.length → w'.heap[ad.block]? = w.heap[ad.block]?) : RV w' A cs := fun hn => by
  obtain ⟨ad, rfl, hc⟩ := h hn
  exact ⟨ad, rfl, fun j u hu => (World.cell?_of_block (by rw [block_add]; exact hk ad rfl hn)).trans (hc j u hu)⟩
theorem RV.lt (h : RV w A cs) {ad : Addr} (hA : A = some ad) (hn : 0 < cs.length) : ad.block < w.heap.size := by
  obtain ⟨ad', e, hc⟩ := h hn
  obtain rfl : ad = ad' := by rw [hA] at e; exact Option.some.inj e
  have := World.block_lt_of_cell? w _ (hc 0 _ (List.getElem?_eq_getElem hn))
  rwa [block_add] at this
theorem RV.below (h : RV w A cs) (hb : Below w.heap.size w w') : RV w' A cs :=
  h.keep fun _ hA hn => hb.block _ (h.lt hA hn)
theorem RV.grown (h : RV w A cs) {row : Option Nat} (hg : w.grownBy w' row) (hne : ∀ ad, A = some ad → 0 < cs.length → some ad.block ≠ row) : RV w' A cs :=
  h.keep fun _ hA hn => hg.block _ (h.lt hA hn) (hne _ hA hn)
theorem RV.drew (h : RV w A cs) : RV w.drew A cs := h
theorem RV.drewN (h : RV w A cs) (n : Nat) : RV (w.drewN n) A cs := h
theorem RV.alloc (h : RV w A cs) (o : Obj) : RV (w.alloc o) A cs := h.below ((Below.refl _ _).alloc (Nat.le_refl _) o)
theorem RV.setCell (h : RV w A cs) {p : Addr} (hp : ∀ ad, A = some ad → 0 < cs.length → ad.block ≠ p.block) (u : Value) : RV (w.setCell p u) A cs :=
  h.keep fun _ hA hn => Below.heap_setCell _ _ _ _ (hp _ hA hn)
theorem RV.take (h : RV w A cs) (k : Nat) : RV w A (cs.take k) := fun hn => by
  obtain ⟨ad, e, hc⟩ := h (by rw [List.length_take] at hn; omega)
  refine ⟨ad, e, fun j u hu => hc j u ?_⟩
  rw [List.getElem?_take] at hu
  split at hu
  · exact hu
  · cases hu
theorem RV.drop (h : RV w A cs) (k : Nat) : RV w (A.map (·.add k)) (cs.drop k) := fun hn => by
  rw [List.length_drop] at hn
  obtain ⟨ad, rfl, hc⟩ := h (by omega)
  refine ⟨ad.add k, rfl, fun j u hu => ?_⟩
  rw [add_add]
  exact hc _ u (by rw [← hu, List.getElem?_drop])
/-- The walk's own spelling of a cut: the address behind the capacity's end stays. -/
theorem RV.cut (h : RV w A cs) {k cap : Nat} (hc : cs.length ≤ cap) : RV w (if cap = k then A else A.map (·.add k)) (cs.drop k) := by
  by_cases hk : cap = k
  · rw [if_pos hk]
    have : cs.drop k = [] := List.drop_eq_nil_of_le (by omega)
    rw [this]
    exact RV.nil _ _
  · rw [if_neg hk]
    exact h.drop k
end

/-! ### a block of bytes that is known whole -/
def RowB (e : TypeId) (w : World) (g : Nat) (full : List UInt8) : Prop := w.heap[g]? = some (.cells (bv full).toArray e (0, 0))

section
variable {e : TypeId} {w w' : World} {g : Nat} {full : List UInt8}
theorem RowB.lt (h : RowB e w g full) : g < w.heap.size := (Array.getElem?_eq_some_iff.1 h).1
theorem RowB.cell (h : RowB e w g full) {j : Nat} {b : UInt8} (hj : full[j]? = some b) : w.cell? ⟨g, j, none⟩ = some (.int .u8 (b.toNat : Int)) := by
  rw [cell_of_row w g j _ e (0, 0) h]
  simp [bv, hj]
theorem RowB.frozen (h : RowB e w g full) (j : Nat) : w.frozen? ⟨g, j, none⟩ = false := frozen_of_row w g j _ e h
theorem RowB.set (h : RowB e w g full) (j : Nat) (b : UInt8) : RowB e (w.setCell ⟨g, j, none⟩ (.int .u8 (b.toNat : Int))) g (full.set j b) := by
  unfold RowB at h ⊢
  rw [heap_setCell_same w g j _ e _ h, bv_set]
  simp
theorem RowB.set' (h : RowB e w g full) (j : Nat) {n : Int} {b : UInt8} (hb : n = (b.toNat : Int)) : RowB e (w.setCell ⟨g, j, none⟩ (.int .u8 n)) g (full.set j b) := by
  subst hb
  exact h.set j b
theorem RowB.heap (h : RowB e w g full) (hh : w'.heap[g]? = w.heap[g]?) : RowB e w' g full := hh.trans h
theorem RowB.below {B : Nat} (h : RowB e w g full) (hb : Below B w w') (hg : g < B) : RowB e w' g full := (hb.block g hg).trans h
theorem RowB.belowAll (h : RowB e w g full) (hb : Below w.heap.size w w') : RowB e w' g full := h.below hb h.lt
theorem RowB.grown {row : Option Nat} (h : RowB e w g full) (hb : w.grownBy w' row) (hg : some g ≠ row) : RowB e w' g full := (hb.block g h.lt hg).trans h
theorem RowB.alloc (h : RowB e w g full) (o : Obj) : RowB e (w.alloc o) g full := (Below.heap_alloc w o g h.lt).trans h
theorem RowB.far (h : RowB e w g full) {p : Addr} (hp : g ≠ p.block) (u : Value) : RowB e (w.setCell p u) g full := (Below.heap_setCell w p u g hp).trans h
theorem RowB.rv (h : RowB e w g full) : RV w (some ⟨g, 0, none⟩) (bv full) := fun _ => ⟨_, rfl, fun j u hu => by
  rw [add_lit0, cell_of_row w g j _ e (0, 0) h]
  simpa using hu⟩
theorem RowB.made (w : World) (e : TypeId) (m : Nat) : RowB e (w.alloc (.cells (madeCells #[.int .u8 0] m) e)) w.heap.size (List.replicate m 0) := by
  unfold RowB
  rw [heap_alloc_new]
  have h : (madeCells #[Value.int .u8 0] m) = (bv (List.replicate m 0)).toArray := by
    apply Array.toList_inj.1
    rw [toList_madeCells_one]
    simp [bv]
  rw [h]
theorem RowB.new (w : World) (e : TypeId) (l : List UInt8) : RowB e (w.alloc (.cells (bv l).toArray e)) w.heap.size l := heap_alloc_new w _
end

/-! ### a slice of bytes of the call's own: nil, or at the head of a block from 'base' on whose cells are bytes, spare ones too -/
def OwnB (e : TypeId) (w : World) (base : Nat) (v : Value) (xs : List UInt8) : Prop :=
  (v = .slice none 0 0 ∧ xs = []) ∨
  ∃ g full, v = .slice (some ⟨g, 0, none⟩) xs.length full.length ∧ base ≤ g ∧ RowB e w g full ∧ full.take xs.length = xs ∧ full.length ≤ maxLen

section
variable {e : TypeId} {w w' : World} {base : Nat} {v : Value} {xs : List UInt8}
theorem OwnB.nil (e : TypeId) (w : World) (base : Nat) : OwnB e w base (.slice none 0 0) [] := .inl ⟨rfl, rfl⟩
theorem OwnB.len {g : Nat} {full : List UInt8} (h : full.take xs.length = xs) : xs.length ≤ full.length := by
  have := congrArg List.length h
  rw [List.length_take] at this
  omega
theorem OwnB.slice (h : OwnB e w base v xs) : ∃ A c, v = .slice A xs.length c ∧ RV w A (bv xs) ∧ xs.length ≤ c ∧ c ≤ maxLen ∧ (∀ ad, A = some ad → some ad.block = v.ownBlock) := by
  rcases h with ⟨rfl, rfl⟩ | ⟨g, full, rfl, hb, hr, ht, hm⟩
  · exact ⟨none, 0, rfl, RV.nil _ _, by simp, by simp, fun _ h => by cases h⟩
  · have hl := OwnB.len (g := g) ht
    refine ⟨_, _, rfl, ?_, hl, hm, fun ad h => ?_⟩
    · have := hr.rv.take xs.length
      rwa [← bv_take, ht] at this
    · obtain rfl := Option.some.inj h
      rfl
theorem OwnB.blk (h : OwnB e w base v xs) {k : Nat} (hk : v.ownBlock = some k) : base ≤ k ∧ k < w.heap.size := by
  rcases h with ⟨rfl, rfl⟩ | ⟨g, full, rfl, hb, hr, ht, hm⟩
  · simp [Value.ownBlock] at hk
  · obtain rfl : g = k := by simpa [Value.ownBlock] using hk
    exact ⟨hb, hr.lt⟩
theorem OwnB.kept {row : Option Nat} (h : OwnB e w base v xs) (hg : w.grownBy w' row) (hne : v.ownBlock = none ∨ v.ownBlock ≠ row) : OwnB e w' base v xs := by
  rcases h with h | ⟨g, full, rfl, hb, hr, ht, hm⟩
  · exact .inl h
  · exact .inr ⟨g, full, rfl, hb, hr.grown hg (by simpa [Value.ownBlock] using hne), ht, hm⟩
theorem OwnB.below (h : OwnB e w base v xs) (hb : Below w.heap.size w w') : OwnB e w' base v xs := by
  rcases h with h | ⟨g, full, rfl, hg, hr, ht, hm⟩
  · exact .inl h
  · exact .inr ⟨g, full, rfl, hg, hr.belowAll hb, ht, hm⟩
theorem OwnB.setOther (h : OwnB e w base v xs) {g i : Nat} (hg : g < base) (u : Value) : OwnB e (w.setCell ⟨g, i, none⟩ u) base v xs := by
  rcases h with h | ⟨k, full, rfl, hb, hr, ht, hm⟩
  · exact .inl h
  · exact .inr ⟨k, full, rfl, hb, hr.far (p := ⟨g, i, none⟩) (fun e => by simp at e; omega) _, ht, hm⟩
theorem OwnB.drawn (h : OwnB e w base v xs) (hd : Drawn w w') : OwnB e w' base v xs := h.below (hd.below _)
theorem OwnB.lower {b : Nat} (h : OwnB e w base v xs) (hb : b ≤ base) : OwnB e w b v xs := by
  rcases h with h | ⟨g, full, rfl, hg, hr, ht, hm⟩
  · exact .inl h
  · exact .inr ⟨g, full, rfl, by omega, hr, ht, hm⟩
theorem OwnB.whole {g : Nat} {l : List UInt8} (hb : base ≤ g) (h : RowB e w g l) (hm : l.length ≤ maxLen) : OwnB e w base (.slice (some ⟨g, 0, none⟩) l.length l.length) l :=
  .inr ⟨g, l, rfl, hb, h, List.take_length, hm⟩
end

/-! ### make([]byte, n) -/
theorem make_bytes {P : Program} (t e : TypeId) (ht : P.underlying t = some (.slice e)) (hinfo : (P.info? e).map (fun i => (i.zero, i.size, i.bytes)) = some (some (.int .u8 0), 1, 1)) (m : Nat) (hn : m ≤ 281474976710656) :
    ∀ W : World, (Instr.makeSlice t (.int .i64 (m : Int)) (.int .i64 (m : Int))).run P W = .ok (.slice (some ⟨W.heap.size, 0, none⟩) m m) (W.alloc (.cells (madeCells #[.int .u8 0] m) e)) := by
  intro W
  exact run_make_row' t e (.int .u8 0) 1 ht hinfo rfl .i64 .i64 m (by omega) (by omega) W

/-! ### numbers as bytes -/
def digs (n s : Nat) : List UInt8 := (List.range s).map fun i => UInt8.ofNat (n / 256 ^ i)
theorem digs_length (n s : Nat) : (digs n s).length = s := by simp [digs]
theorem digs_get {n s j : Nat} (h : j < s) : (digs n s)[j]? = some (UInt8.ofNat (n / 256 ^ j)) := by simp [digs, h]

end Go.Proofs.Ytlcdabmclcfagaa
