import Derived.WalkKit
import Derived.WalkSpells
import Derived.WalkLawsBesides
import Derived.Deep.AppendLies
import Derived.Deep.Draws
import Derived.Deep.LoopGhost
import Derived.Lib.Hide
import Derived.Deep.OwnRows
import Derived.Maps.AppendAt
import Derived.KernelRfl
import Derived.Test.YtlcdabmclcfagaaProg
set_option linter.unusedVariables false
set_option linter.unusedSimpArgs false
/- Words for memory: a slice that reads as a list of cells; bytes as cells; rows of bytes that are known whole; append onto them. Plain lemmas, no program in sight. -/
namespace Go.Proofs.Ytlcdabmclcfagaa
open Go.RowKit

/-! ### bytes as values -/
def bv (l : List UInt8) : List Value := l.map fun b => .int .u8 (b.toNat : Int)
theorem bv_length (l : List UInt8) : (bv l).length = l.length := by simp [bv]
theorem bv_append (l m : List UInt8) : bv (l ++ m) = bv l ++ bv m := by simp [bv]
theorem bv_take (l : List UInt8) (n : Nat) : bv (l.take n) = (bv l).take n := by simp [bv]
theorem bv_drop (l : List UInt8) (n : Nat) : bv (l.drop n) = (bv l).drop n := by simp [bv]
theorem bv_get (l : List UInt8) (j : Nat) : (bv l)[j]? = (l[j]?).map fun b => Value.int .u8 (b.toNat : Int) := by simp [bv]
theorem bv_set (l : List UInt8) (j : Nat) (b : UInt8) : bv (l.set j b) = (bv l).set j (.int .u8 (b.toNat : Int)) := by simp [bv, List.map_set]
theorem bv_oneCell (l : List UInt8) : ∀ u ∈ bv l, u.oneCell' = true := by
  intro u hu
  obtain ⟨_, _, rfl⟩ := List.mem_map.1 hu
  rfl
theorem bv_inj {l m : List UInt8} (h : bv l = bv m) : l = m := by
  have hf : ∀ a b : UInt8, (Value.int .u8 (a.toNat : Int)) = .int .u8 (b.toNat : Int) → a = b := by
    intro a b h
    injection h with _ h
    exact UInt8.toNat.inj (by omega)
  exact (List.map_inj_right hf).1 h

/-! ### endings and worlds -/
theorem ret_bool {a b : Bool} (h : a = b) : Ending.returned (.bool a) = .returned (.bool b) := by rw [h]
theorem ret_int {k : IntKind} {a b : Int} (h : a = b) : Ending.returned (.int k a) = .returned (.int k b) := by rw [h]
/-- Some orders have been drawn, nothing else. -/
def Drawn (w w' : World) : Prop := ∃ n, w' = w.drewN n
theorem Drawn.refl (w : World) : Drawn w w := ⟨0, rfl⟩
theorem Drawn.mk (w : World) (n : Nat) : Drawn w (w.drewN n) := ⟨n, rfl⟩
theorem Drawn.step {w w' : World} (h : Drawn w w') (n : Nat) : Drawn w (w'.drewN n) := by
  obtain ⟨m, rfl⟩ := h
  exact ⟨m + n, World.drewN_drewN ..⟩
theorem Drawn.trans {a b c : World} (h : Drawn a b) (k : Drawn b c) : Drawn a c := by
  obtain ⟨n, rfl⟩ := k
  exact h.step n
theorem below_drewN {B : Nat} {w w' : World} (h : Below B w w') (n : Nat) : Below B w (w'.drewN n) := ⟨h.os, h.tape, h.output, h.size, h.block⟩
theorem Drawn.below {w w' : World} (h : Drawn w w') (B : Nat) : Below B w w' := by
  obtain ⟨n, rfl⟩ := h
  exact below_drewN (Below.refl _ _) n
theorem Drawn.heap {w w' : World} (h : Drawn w w') : w'.heap = w.heap := by
  obtain ⟨n, rfl⟩ := h
  rfl
theorem below_then {B : Nat} {w w1 w2 : World} (h : Below B w w1) (hB : B ≤ w1.heap.size) (k : Below w1.heap.size w1 w2) : Below B w w2 :=
  h.trans ⟨k.os, k.tape, k.output, k.size, fun i hi => k.block i (Nat.lt_of_lt_of_le hi hB)⟩

/-! ### addresses -/
theorem block_add (a : Addr) (n : Nat) : (a.add n).block = a.block := by unfold Addr.add; split <;> rfl
theorem add_zero (a : Addr) : a.add 0 = a := by unfold Addr.add; simp
theorem add_add (a : Addr) (i j : Nat) : (a.add i).add j = a.add (i + j) := by
  unfold Addr.add
  by_cases hi : i = 0 <;> by_cases hj : j = 0 <;> simp [hi, hj, Nat.add_assoc]
theorem add_lit0 (g j : Nat) : (⟨g, 0, none⟩ : Addr).add j = ⟨g, j, none⟩ := by unfold Addr.add; split <;> simp_all

/-! ### a slice that reads as a list of cells (nil, empty and other slices alike) -/
def RV (w : World) (A : Option Addr) (cs : List Value) : Prop :=
  0 < cs.length → ∃ ad, A = some ad ∧ ∀ j u, cs[j]? = some u → w.cell? (ad.add j) = some u

section
variable {w w' : World} {A : Option Addr} {cs : List Value}
theorem RV.nil (w : World) (A : Option Addr) : RV w A [] := fun h => absurd h (by simp)
theorem RV.at_ (h : RV w A cs) {k : Nat} (hk : k < cs.length) : ∃ ad, A = some ad ∧ w.cell? (ad.add k) = some cs[k] := by
  obtain ⟨ad, e, hc⟩ := h (by omega)
  exact ⟨ad, e, hc k _ (List.getElem?_eq_getElem hk)⟩
theorem RV.keep (h : RV w A cs) (hk : ∀ ad, A = some ad → 0 < cs.length → w'.heap[ad.block]? = w.heap[ad.block]?) : RV w' A cs := fun hn => by
  obtain ⟨ad, rfl, hc⟩ := h hn
  exact ⟨ad, rfl, fun j u hu => (World.cell?_of_block (by rw [block_add]; exact hk ad rfl hn)).trans (hc j u hu)⟩
theorem RV.lt (h : RV w A cs) {ad : Addr} (hA : A = some ad) (hn : 0 < cs.length) : ad.block < w.heap.size := by
  obtain ⟨ad', e, hc⟩ := h hn
  obtain rfl : ad = ad' := by rw [hA] at e; exact Option.some.inj e
  have := World.block_lt_of_cell? w _ (hc 0 _ (List.getElem?_eq_getElem hn))
  rwa [block_add] at this
theorem RV.below (h : RV w A cs) (hb : Below w.heap.size w w') : RV w' A cs :=
  h.keep fun _ hA hn => hb.block _ (h.lt hA hn)
theorem RV.grown (h : RV w A cs) {row : Option Nat} (hg : w.grownBy w' row) (hne : ∀ ad, A = some ad → 0 < cs.length → some ad.block ≠ row) : RV w' A cs :=
  h.keep fun _ hA hn => hg.block _ (h.lt hA hn) (hne _ hA hn)
theorem RV.drew (h : RV w A cs) : RV w.drew A cs := h
theorem RV.drewN (h : RV w A cs) (n : Nat) : RV (w.drewN n) A cs := h
theorem RV.alloc (h : RV w A cs) (o : Obj) : RV (w.alloc o) A cs := h.below ((Below.refl _ _).alloc (Nat.le_refl _) o)
theorem RV.setCell (h : RV w A cs) {p : Addr} (hp : ∀ ad, A = some ad → 0 < cs.length → ad.block ≠ p.block) (u : Value) : RV (w.setCell p u) A cs :=
  h.keep fun _ hA hn => Below.heap_setCell _ _ _ _ (hp _ hA hn)
theorem RV.take (h : RV w A cs) (k : Nat) : RV w A (cs.take k) := fun hn => by
  obtain ⟨ad, e, hc⟩ := h (by rw [List.length_take] at hn; omega)
  refine ⟨ad, e, fun j u hu => hc j u ?_⟩
  rw [List.getElem?_take] at hu
  split at hu
  · exact hu
  · cases hu
theorem RV.drop (h : RV w A cs) (k : Nat) : RV w (A.map (·.add k)) (cs.drop k) := fun hn => by
  rw [List.length_drop] at hn
  obtain ⟨ad, rfl, hc⟩ := h (by omega)
  refine ⟨ad.add k, rfl, fun j u hu => ?_⟩
  rw [add_add]
  exact hc _ u (by rw [← hu, List.getElem?_drop])
/-- The walk's own spelling of a cut: the address behind the capacity's end stays. -/
theorem RV.cut (h : RV w A cs) {k cap : Nat} (hc : cs.length ≤ cap) : RV w (if cap = k then A else A.map (·.add k)) (cs.drop k) := by
  by_cases hk : cap = k
  · rw [if_pos hk]
    have : cs.drop k = [] := List.drop_eq_nil_of_le (by omega)
    rw [this]
    exact RV.nil _ _
  · rw [if_neg hk]
    exact h.drop k
end

/-! ### a block of bytes that is known whole -/
def RowB (e : TypeId) (w : World) (g : Nat) (full : List UInt8) : Prop := w.heap[g]? = some (.cells (bv full).toArray e (0, 0))

section
variable {e : TypeId} {w w' : World} {g : Nat} {full : List UInt8}
theorem RowB.lt (h : RowB e w g full) : g < w.heap.size := (Array.getElem?_eq_some_iff.1 h).1
theorem RowB.cell (h : RowB e w g full) {j : Nat} {b : UInt8} (hj : full[j]? = some b) : w.cell? ⟨g, j, none⟩ = some (.int .u8 (b.toNat : Int)) := by
  rw [cell_of_row w g j _ e (0, 0) h]
  simp [bv, hj]
theorem RowB.frozen (h : RowB e w g full) (j : Nat) : w.frozen? ⟨g, j, none⟩ = false := frozen_of_row w g j _ e h
theorem RowB.set (h : RowB e w g full) (j : Nat) (b : UInt8) : RowB e (w.setCell ⟨g, j, none⟩ (.int .u8 (b.toNat : Int))) g (full.set j b) := by
  unfold RowB at h ⊢
  rw [heap_setCell_same w g j _ e _ h, bv_set]
  simp
theorem RowB.set' (h : RowB e w g full) (j : Nat) {n : Int} {b : UInt8} (hb : n = (b.toNat : Int)) : RowB e (w.setCell ⟨g, j, none⟩ (.int .u8 n)) g (full.set j b) := by
  subst hb
  exact h.set j b
theorem RowB.heap (h : RowB e w g full) (hh : w'.heap[g]? = w.heap[g]?) : RowB e w' g full := hh.trans h
theorem RowB.below {B : Nat} (h : RowB e w g full) (hb : Below B w w') (hg : g < B) : RowB e w' g full := (hb.block g hg).trans h
theorem RowB.belowAll (h : RowB e w g full) (hb : Below w.heap.size w w') : RowB e w' g full := h.below hb h.lt
theorem RowB.grown {row : Option Nat} (h : RowB e w g full) (hb : w.grownBy w' row) (hg : some g ≠ row) : RowB e w' g full := (hb.block g h.lt hg).trans h
theorem RowB.alloc (h : RowB e w g full) (o : Obj) : RowB e (w.alloc o) g full := (Below.heap_alloc w o g h.lt).trans h
theorem RowB.far (h : RowB e w g full) {p : Addr} (hp : g ≠ p.block) (u : Value) : RowB e (w.setCell p u) g full := (Below.heap_setCell w p u g hp).trans h
theorem RowB.rv (h : RowB e w g full) : RV w (some ⟨g, 0, none⟩) (bv full) := fun _ => ⟨_, rfl, fun j u hu => by
  rw [add_lit0, cell_of_row w g j _ e (0, 0) h]
  simpa using hu⟩
theorem RowB.made (w : World) (e : TypeId) (m : Nat) : RowB e (w.alloc (.cells (madeCells #[.int .u8 0] m) e)) w.heap.size (List.replicate m 0) := by
  unfold RowB
  rw [heap_alloc_new]
  have h : (madeCells #[Value.int .u8 0] m) = (bv (List.replicate m 0)).toArray := by
    apply Array.toList_inj.1
    rw [toList_madeCells_one]
    simp [bv]
  rw [h]
theorem RowB.new (w : World) (e : TypeId) (l : List UInt8) : RowB e (w.alloc (.cells (bv l).toArray e)) w.heap.size l := heap_alloc_new w _
end

/-! ### a slice of bytes of the call's own: nil, or at the head of a block from 'base' on whose cells are bytes, spare ones too -/
def OwnB (e : TypeId) (w : World) (base : Nat) (v : Value) (xs : List UInt8) : Prop :=
  (v = .slice none 0 0 ∧ xs = []) ∨
  ∃ g full, v = .slice (some ⟨g, 0, none⟩) xs.length full.length ∧ base ≤ g ∧ RowB e w g full ∧ full.take xs.length = xs ∧ full.length ≤ maxLen

section
variable {e : TypeId} {w w' : World} {base : Nat} {v : Value} {xs : List UInt8}
theorem OwnB.nil (e : TypeId) (w : World) (base : Nat) : OwnB e w base (.slice none 0 0) [] := .inl ⟨rfl, rfl⟩
theorem OwnB.len {g : Nat} {full : List UInt8} (h : full.take xs.length = xs) : xs.length ≤ full.length := by
  have := congrArg List.length h
  rw [List.length_take] at this
  omega
theorem OwnB.slice (h : OwnB e w base v xs) : ∃ A c, v = .slice A xs.length c ∧ RV w A (bv xs) ∧ xs.length ≤ c ∧ c ≤ maxLen ∧ (∀ ad, A = some ad → some ad.block = v.ownBlock) := by
  rcases h with ⟨rfl, rfl⟩ | ⟨g, full, rfl, hb, hr, ht, hm⟩
  · exact ⟨none, 0, rfl, RV.nil _ _, by simp, by simp, fun _ h => by cases h⟩
  · have hl := OwnB.len (g := g) ht
    refine ⟨_, _, rfl, ?_, hl, hm, fun ad h => ?_⟩
    · have := hr.rv.take xs.length
      rwa [← bv_take, ht] at this
    · obtain rfl := Option.some.inj h
      rfl
theorem OwnB.blk (h : OwnB e w base v xs) {k : Nat} (hk : v.ownBlock = some k) : base ≤ k ∧ k < w.heap.size := by
  rcases h with ⟨rfl, rfl⟩ | ⟨g, full, rfl, hb, hr, ht, hm⟩
  · simp [Value.ownBlock] at hk
  · obtain rfl : g = k := by simpa [Value.ownBlock] using hk
    exact ⟨hb, hr.lt⟩
theorem OwnB.kept {row : Option Nat} (h : OwnB e w base v xs) (hg : w.grownBy w' row) (hne : v.ownBlock = none ∨ v.ownBlock ≠ row) : OwnB e w' base v xs := by
  rcases h with h | ⟨g, full, rfl, hb, hr, ht, hm⟩
  · exact .inl h
  · exact .inr ⟨g, full, rfl, hb, hr.grown hg (by simpa [Value.ownBlock] using hne), ht, hm⟩
theorem OwnB.below (h : OwnB e w base v xs) (hb : Below w.heap.size w w') : OwnB e w' base v xs := by
  rcases h with h | ⟨g, full, rfl, hg, hr, ht, hm⟩
  · exact .inl h
  · exact .inr ⟨g, full, rfl, hg, hr.belowAll hb, ht, hm⟩
theorem OwnB.setOther (h : OwnB e w base v xs) {g i : Nat} (hg : g < base) (u : Value) : OwnB e (w.setCell ⟨g, i, none⟩ u) base v xs := by
  rcases h with h | ⟨k, full, rfl, hb, hr, ht, hm⟩
  · exact .inl h
  · exact .inr ⟨k, full, rfl, hb, hr.far (p := ⟨g, i, none⟩) (fun e => by simp at e; omega) _, ht, hm⟩
theorem OwnB.drawn (h : OwnB e w base v xs) (hd : Drawn w w') : OwnB e w' base v xs := h.below (hd.below _)
theorem OwnB.lower {b : Nat} (h : OwnB e w base v xs) (hb : b ≤ base) : OwnB e w b v xs := by
  rcases h with h | ⟨g, full, rfl, hg, hr, ht, hm⟩
  · exact .inl h
  · exact .inr ⟨g, full, rfl, by omega, hr, ht, hm⟩
theorem OwnB.whole {g : Nat} {l : List UInt8} (hb : base ≤ g) (h : RowB e w g l) (hm : l.length ≤ maxLen) : OwnB e w base (.slice (some ⟨g, 0, none⟩) l.length l.length) l :=
  .inr ⟨g, l, rfl, hb, h, List.take_length, hm⟩
end

/-! ### make([]byte, n) -/
theorem make_bytes {P : Program} (t e : TypeId) (ht : P.underlying t = some (.slice e)) (hinfo : (P.info? e).map (fun i => (i.zero, i.size, i.bytes)) = some (some (.int .u8 0), 1, 1)) (m : Nat) (hn : m ≤ 281474976710656) :
    ∀ W : World, (Instr.makeSlice t (.int .i64 (m : Int)) (.int .i64 (m : Int))).run P W = .ok (.slice (some ⟨W.heap.size, 0, none⟩) m m) (W.alloc (.cells (madeCells #[.int .u8 0] m) e)) := by
  intro W
  exact run_make_row' t e (.int .u8 0) 1 ht hinfo rfl .i64 .i64 m (by omega) (by omega) W

/-! ### numbers as bytes -/
def digs (n s : Nat) : List UInt8 := (List.range s).map fun i => UInt8.ofNat (n / 256 ^ i)
theorem digs_length (n s : Nat) : (digs n s).length = s := by simp [digs]
theorem digs_get {n s j : Nat} (h : j < s) : (digs n s)[j]? = some (UInt8.ofNat (n / 256 ^ j)) := by simp [digs, h]

end Go.Proofs.Ytlcdabmclcfagaa

/- Layer 3, plain: a chip. -/
namespace Go.Proofs.Ytlcdabmclcfagaa
open Go.RowKit

/-- What strikes. -/
structure Htt where
  after : Int
  fails : Bool
  mask : List UInt8
/-- A chip: its geometry, its bytes (block by block), which blocks are bad, what strikes. -/
structure Chp where
  B : Nat
  P : Nat
  S : Nat
  Sp : Nat
  bytes : List UInt8
  bad : List Bool
  hits : List Htt
  since : Int
  dead : Bool
  deeds : Int
def Chp.N (c : Chp) : Nat := c.P * c.S
def Chp.row (c : Chp) (i : Nat) : List UInt8 := (c.bytes.drop (i * c.N)).take c.N
structure ChOk (c : Chp) : Prop where
  b1 : 8 ≤ c.B
  b2 : c.B ≤ 64
  p1 : 4 ≤ c.P
  p2 : c.P ≤ 32
  s1 : 128 ≤ c.S
  s2 : c.S ≤ 256
  sp : c.Sp ≤ 4
  len : c.bytes.length = c.B * c.N
  bads : c.bad.length = c.B
theorem ChOk.n {c : Chp} (h : ChOk c) : 512 ≤ c.N ∧ c.N ≤ 8192 ∧ c.B * c.N ≤ 524288 := by
  have h1 : 4 * 128 ≤ c.P * c.S := Nat.mul_le_mul h.p1 h.s1
  have h2 : c.P * c.S ≤ 32 * 256 := Nat.mul_le_mul h.p2 h.s2
  have h3 : c.B * c.N ≤ 64 * 8192 := Nat.mul_le_mul h.b2 (by unfold Chp.N; omega)
  exact ⟨h1, h2, h3⟩
theorem ChOk.row_end {c : Chp} (h : ChOk c) {i : Nat} (hi : i < c.B) : i * c.N + c.N ≤ c.bytes.length := by
  have h1 : (i + 1) * c.N ≤ c.B * c.N := Nat.mul_le_mul_right _ hi
  rw [h.len]
  rw [Nat.succ_mul] at h1
  exact h1
theorem ChOk.row_len {c : Chp} (h : ChOk c) {i : Nat} (hi : i < c.B) : (c.row i).length = c.N := by
  have := h.row_end hi
  unfold Chp.row
  rw [List.length_take, List.length_drop]
  omega
theorem ChOk.page_end {c : Chp} (h : ChOk c) {b p : Nat} (hb : b < c.B) (hp : p < c.P) : p * c.S + c.S ≤ c.N ∧ (b * c.P + p) * c.S = b * c.N + p * c.S ∧ (b * c.P + p) * c.S + c.S ≤ c.bytes.length := by
  have h1 : (p + 1) * c.S ≤ c.P * c.S := Nat.mul_le_mul_right _ hp
  rw [Nat.succ_mul] at h1
  have h2 : (b * c.P + p) * c.S = b * c.N + p * c.S := by unfold Chp.N; rw [Nat.add_mul, Nat.mul_assoc]
  have h3 := h.row_end hb
  have h4 : p * c.S + c.S ≤ c.N := h1
  exact ⟨h4, h2, by omega⟩

/-! ### some of the bytes become others -/
def spl (l : List UInt8) (at_ : Nat) (m : List UInt8) : List UInt8 := l.take at_ ++ m ++ l.drop (at_ + m.length)
def seg (l : List UInt8) (at_ n : Nat) : List UInt8 := (l.drop at_).take n
theorem seg_len {l : List UInt8} {a n : Nat} (h : a + n ≤ l.length) : (seg l a n).length = n := by
  unfold seg
  rw [List.length_take, List.length_drop]
  omega
theorem seg_get {l : List UInt8} {a n i : Nat} (hi : i < n) : (seg l a n)[i]? = l[a + i]? := by
  unfold seg
  rw [List.getElem?_take, if_pos hi, List.getElem?_drop]
theorem spl_len {l m : List UInt8} {a : Nat} (h : a + m.length ≤ l.length) : (spl l a m).length = l.length := by
  unfold spl
  simp only [List.length_append, List.length_take, List.length_drop]
  omega
theorem spl_get {l m : List UInt8} {a : Nat} (h : a + m.length ≤ l.length) (i : Nat) : (spl l a m)[i]? = if a ≤ i ∧ i < a + m.length then m[i - a]? else l[i]? := by
  unfold spl
  rw [List.append_assoc]
  have hta : (l.take a).length = a := by rw [List.length_take]; omega
  by_cases h1 : i < a
  · rw [List.getElem?_append_left (by omega), List.getElem?_take, if_pos h1, if_neg (by omega)]
  · rw [List.getElem?_append_right (by omega), hta]
    by_cases h2 : i < a + m.length
    · rw [List.getElem?_append_left (by omega), if_pos ⟨by omega, h2⟩]
    · rw [List.getElem?_append_right (by omega), if_neg (by omega), List.getElem?_drop]
      congr 1
      omega
theorem spl_nil (l : List UInt8) (a : Nat) : spl l a [] = l := by
  unfold spl
  simp
/-- A row of bytes of which a part becomes others. -/
theorem row_spl {c : Chp} (h : ChOk c) {b off i : Nat} {m : List UInt8} (hb : b < c.B) (ho : off + m.length ≤ c.N) (hi : i < c.B) :
    Chp.row {c with bytes := spl c.bytes (b * c.N + off) m} i = if i = b then spl (c.row b) off m else c.row i := by
  have e1 := h.row_end hb
  have e2 := h.row_end hi
  have hl := spl_len (l := c.bytes) (m := m) (a := b * c.N + off) (by omega)
  have hrl := h.row_len hb
  have hN : ({c with bytes := spl c.bytes (b * c.N + off) m} : Chp).N = c.N := rfl
  apply List.ext_getElem?
  intro j
  unfold Chp.row
  rw [hN]
  dsimp only
  by_cases hj : j < c.N
  · rw [List.getElem?_take, if_pos hj, List.getElem?_drop, spl_get (by omega)]
    by_cases hib : i = b
    · subst hib
      rw [if_pos rfl]
      have hrow : ∀ k, k < c.N → (c.row i)[k]? = c.bytes[i * c.N + k]? := fun k hk => by
        unfold Chp.row
        rw [List.getElem?_take, if_pos hk, List.getElem?_drop]
      rw [show (List.take c.N (List.drop (i * c.N) c.bytes)) = c.row i from rfl, spl_get (by omega)]
      by_cases hin : off ≤ j ∧ j < off + m.length
      · rw [if_pos (by omega), if_pos hin]
        congr 1
        omega
      · rw [if_neg (by omega), if_neg hin, hrow j hj]
    · rw [if_neg hib]
      have hmul : i * c.N + c.N ≤ b * c.N ∨ b * c.N + c.N ≤ i * c.N := by
        rcases Nat.lt_or_ge i b with h1 | h1
        · left
          have := Nat.mul_le_mul_right c.N h1
          rw [Nat.succ_mul] at this
          exact this
        · right
          have := Nat.mul_le_mul_right c.N (show b + 1 ≤ i by omega)
          rw [Nat.succ_mul] at this
          exact this
      rw [if_neg (by omega), List.getElem?_take, if_pos hj, List.getElem?_drop]
  · rw [List.getElem?_take, if_neg hj]
    by_cases hib : i = b
    · rw [if_pos hib]
      have : (spl (c.row b) off m).length = c.N := by rw [spl_len (by omega), hrl]
      rw [show (List.take c.N (List.drop (b * c.N) c.bytes)) = c.row b from rfl, List.getElem?_eq_none (by omega)]
    · rw [if_neg hib, List.getElem?_take, if_neg hj]

/-! ### what a deed leaves -/
def maskAt (h : Option Htt) (i : Nat) : UInt8 := match h with
  | none => 255
  | some h => match h.mask[i % h.mask.length]? with
    | some m => m
    | none => 0
def mixB (m o w : UInt8) : UInt8 := (o &&& ~~~m) ||| (w &&& m)
def mixGo (h : Option Htt) : Nat → List UInt8 → List UInt8 → List UInt8
  | i, o :: os, w :: ws => mixB (maskAt h i) o w :: mixGo h (i + 1) os ws
  | _, _, _ => []
def mixL (h : Option Htt) (os ws : List UInt8) : List UInt8 := mixGo h 0 os ws
theorem mixGo_get (h : Option Htt) : ∀ (os ws : List UInt8) (i j : Nat) (o w : UInt8), os[j]? = some o → ws[j]? = some w → (mixGo h i os ws)[j]? = some (mixB (maskAt h (i + j)) o w)
  | [], ws, i, j, o, w, h1, h2 => by simp at h1
  | o' :: os, [], i, j, o, w, h1, h2 => by simp at h2
  | o' :: os, w' :: ws, i, 0, o, w, h1, h2 => by
    simp at h1 h2
    rw [mixGo, h1, h2]
    rfl
  | o' :: os, w' :: ws, i, j + 1, o, w, h1, h2 => by
    simp at h1 h2
    rw [mixGo]
    have := mixGo_get h os ws (i + 1) j o w h1 h2
    rw [show i + 1 + j = i + (j + 1) by omega] at this
    simpa using this
theorem mixGo_len (h : Option Htt) : ∀ (os ws : List UInt8) (i : Nat), os.length = ws.length → (mixGo h i os ws).length = os.length
  | [], ws, i, hl => by
    simp [mixGo]
  | o :: os, [], i, hl => by simp at hl
  | o :: os, w :: ws, i, hl => by
    rw [mixGo, List.length_cons, List.length_cons, mixGo_len h os ws (i + 1) (by simpa using hl)]
theorem mixL_len {h : Option Htt} {os ws : List UInt8} (hl : os.length = ws.length) : (mixL h os ws).length = os.length := mixGo_len h os ws 0 hl
theorem mixL_get {h : Option Htt} {os ws : List UInt8} {j : Nat} {o w : UInt8} (h1 : os[j]? = some o) (h2 : ws[j]? = some w) : (mixL h os ws)[j]? = some (mixB (maskAt h j) o w) := by
  have := mixGo_get h os ws 0 j o w h1 h2
  rwa [Nat.zero_add] at this
def strikeS (c : Chp) : Option Htt × Chp :=
  match c.hits with
  | [] => (none, {c with deeds := wrap64 (c.deeds + 1)})
  | h :: r => if c.since < h.after then (none, {c with deeds := wrap64 (c.deeds + 1), since := wrap64 (c.since + 1)})
      else (some h, {c with deeds := wrap64 (c.deeds + 1), hits := r, since := 0})
def doneS (c : Chp) (b at_ : Nat) (ws : List UInt8) : Chp × Nat :=
  let s := strikeS c
  let c2 : Chp := {s.2 with bytes := spl c.bytes at_ (mixL s.1 (seg c.bytes at_ ws.length) ws)}
  match s.1 with
  | none => (c2, 0)
  | some h => if h.fails then ({c2 with bad := c2.bad.set b true}, 9) else ({c2 with dead := true}, 10)
def thereS (c : Chp) (b p : Int) : Prop := 0 ≤ b ∧ b < c.B ∧ 0 ≤ p ∧ p < c.P
instance (c : Chp) (b p : Int) : Decidable (thereS c b p) := by unfold thereS; exact inferInstance
def askS (c : Chp) (b p : Int) : Nat := if c.dead then 10 else if thereS c b p then 0 else 2
def blk255 (l : List UInt8) : Prop := ∀ x ∈ l, x = 255
instance (l : List UInt8) : Decidable (blk255 l) := by unfold blk255; exact inferInstance
def programS (c : Chp) (b p : Int) (ws : List UInt8) : Chp × Nat :=
  if c.dead then (c, 10) else if ¬ thereS c b p ∨ ws.length ≠ c.S then (c, 2)
  else if c.bad[b.toNat]? = some true then (c, 9)
  else if ¬ blk255 ((c.row b.toNat).drop (p.toNat * c.S)) then (c, 8)
  else doneS c b.toNat (b.toNat * c.N + p.toNat * c.S) ws
def eraseS (c : Chp) (b : Int) : Chp × Nat :=
  if c.dead then (c, 10) else if ¬ thereS c b 0 then (c, 2)
  else if c.bad[b.toNat]? = some true then (c, 9)
  else doneS c b.toNat (b.toNat * c.N) (List.replicate c.N 255)
def readS (c : Chp) (b p : Int) : List UInt8 × Nat :=
  if askS c b p ≠ 0 then ([], askS c b p) else (seg c.bytes (b.toNat * c.N + p.toNat * c.S) c.S, 0)
def hitsS (c : Chp) (l : List Htt) : Chp × Nat := if l.any (fun h => decide (h.after < 0)) = true then (c, 2) else ({c with hits := l, since := 0}, 0)
def powerS (c : Chp) : Chp := {c with hits := [], since := 0, dead := false, deeds := 0}
def newS (B P S Sp : Nat) : Chp := ⟨B, P, S, Sp, List.replicate (B * (P * S)) 255, List.replicate B false, [], 0, false, 0⟩
theorem strikeS_same (c : Chp) : (strikeS c).2.B = c.B ∧ (strikeS c).2.P = c.P ∧ (strikeS c).2.S = c.S ∧ (strikeS c).2.Sp = c.Sp ∧ (strikeS c).2.bytes = c.bytes ∧ (strikeS c).2.bad = c.bad ∧ (strikeS c).2.dead = c.dead := by
  unfold strikeS
  split
  · exact ⟨rfl, rfl, rfl, rfl, rfl, rfl, rfl⟩
  · split <;> exact ⟨rfl, rfl, rfl, rfl, rfl, rfl, rfl⟩
end Go.Proofs.Ytlcdabmclcfagaa

/- Bytes in this program's table. -/
namespace Go.Proofs.Ytlcdabmclcfagaa
open Go.RowKit

theorem u8info : (Try.prog.info? 5).map (fun i => (i.zero, i.size, i.bytes)) = some (some (.int .u8 0), 1, 1) := by kernel_rfl

theorem set_take {α : Type} {l m : List α} {j : Nat} {b : α} (h : l.take j = m.take j) (hj : j < l.length) (hm : m[j]? = some b) : (l.set j b).take (j + 1) = m.take (j + 1) := by
  rw [List.take_add_one, List.take_add_one, hm, List.take_set_of_le (Nat.le_refl j), h, List.getElem?_set_self hj]
end Go.Proofs.Ytlcdabmclcfagaa

/- A block that is known whole; what is written, and what is not. -/
namespace Go.Proofs.Ytlcdabmclcfagaa
open Go.RowKit

/-! ### a block that is known whole -/
def Blk (w : World) (g : Nat) (t : TypeId) (cs : Array Value) : Prop := w.heap[g]? = some (.cells cs t (0, 0))
section
variable {w w' : World} {g : Nat} {t : TypeId} {cs : Array Value}
theorem Blk.lt (h : Blk w g t cs) : g < w.heap.size := (Array.getElem?_eq_some_iff.1 h).1
theorem Blk.cell (h : Blk w g t cs) (i : Nat) : w.cell? ⟨g, i, none⟩ = cs[i]? := cell_of_row w g i cs t (0, 0) h
theorem Blk.frozen (h : Blk w g t cs) (i : Nat) : w.frozen? ⟨g, i, none⟩ = false := frozen_of_row w g i cs t h
theorem alloc_sz (w : World) (o : Obj) : (w.alloc o).heap.size = w.heap.size + 1 := by simp
theorem Blk.new (w : World) (t : TypeId) (cs : Array Value) : Blk (w.alloc (.cells cs t)) w.heap.size t cs := heap_alloc_new w _
theorem Blk.heap (h : Blk w g t cs) (hh : w'.heap[g]? = w.heap[g]?) : Blk w' g t cs := hh.trans h
theorem Blk.alloc (h : Blk w g t cs) (o : Obj) : Blk (w.alloc o) g t cs := (Below.heap_alloc w o g h.lt).trans h
theorem Blk.set_ (h : Blk w g t cs) (i : Nat) (u : Value) : Blk (w.setCell ⟨g, i, none⟩ u) g t (cs.setIfInBounds i u) := by
  unfold Blk at h ⊢
  simp [World.setCell, Array.getElem?_modify, h]
theorem Blk.far (h : Blk w g t cs) {p : Addr} (hp : g ≠ p.block) (u : Value) : Blk (w.setCell p u) g t cs := (Below.heap_setCell w p u g hp).trans h
theorem Blk.below {B : Nat} (h : Blk w g t cs) (hb : Below B w w') (hg : g < B) : Blk w' g t cs := (hb.block g hg).trans h
theorem Blk.grown {row : Option Nat} (h : Blk w g t cs) (hb : w.grownBy w' row) (hg : some g ≠ row) : Blk w' g t cs := (hb.block g h.lt hg).trans h
end
theorem grown_setCell (w : World) (g i : Nat) (u : Value) : w.grownBy (w.setCell ⟨g, i, none⟩ u) (some g) :=
  ⟨rfl, rfl, rfl, by simp [World.setCell], fun k _ hk => Below.heap_setCell _ _ _ _ (fun e => hk (by rw [e]))⟩
theorem grown_refl (w : World) (row : Option Nat) : w.grownBy w row := World.grownBy.refl w row
theorem grown_trans {a b c : World} {row : Option Nat} (h : a.grownBy b row) (k : b.grownBy c row) : a.grownBy c row :=
  ⟨k.os.trans h.os, k.tape.trans h.tape, k.output.trans h.output, Nat.le_trans h.size k.size, fun i hi hr => (k.block i (Nat.lt_of_lt_of_le hi h.size) hr).trans (h.block i hi hr)⟩
theorem grown_of_below {w w1 : World} (h : Below w.heap.size w w1) (row : Option Nat) : w.grownBy w1 row := ⟨h.os, h.tape, h.output, h.size, fun i hi _ => h.block i hi⟩
theorem grown_drewN (w : World) (n : Nat) (row : Option Nat) : w.grownBy (w.drewN n) row := grown_of_below (below_drewN (Below.refl _ _) n) row
theorem below_grown {B : Nat} {a b c : World} {g : Nat} (h : Below B a b) (hg : b.grownBy c (some g)) (hB : B ≤ b.heap.size) (hr : B ≤ g) : Below B a c :=
  h.grown hg hB (fun k e => by injection e with e; omega)
/-- A row that was not there is no row. -/
theorem grown_new {a b : World} {g : Nat} (h : a.grownBy b (some g)) (hg : a.heap.size ≤ g) : Below a.heap.size a b :=
  ⟨h.os, h.tape, h.output, h.size, fun i hi => h.block i hi (fun e => by injection e with e; omega)⟩
theorem grown_none {a b : World} (h : a.grownBy b none) : Below a.heap.size a b :=
  ⟨h.os, h.tape, h.output, h.size, fun i hi => h.block i hi (by simp)⟩
end Go.Proofs.Ytlcdabmclcfagaa
