import Derived.WalkKit
import Derived.WalkSpells
import Derived.WalkLawsBesides
import Derived.Deep.AppendLies
import Derived.Deep.Draws
import Derived.Deep.LoopGhost
import Derived.Lib.Hide
import Derived.Deep.OwnRows
import Derived.Maps.AppendAt
import Derived.KernelRfl
set_option linter.unusedVariables false
set_option linter.unusedSimpArgs false
/- Words for memory: a slice that reads as a list of cells; bytes as cells; rows of bytes that are known whole; append onto them. Plain lemmas, no program in sight. -/
namespace Go.Proofs.Ytlioclicopakbaa
open Go.RowKit

/-! ### bytes as values -/
def bv (l : List UInt8) : List Value := l.map fun b => .int .u8 (b.toNat : Int)
theorem bv_length (l : List UInt8) : (bv l).length = l.length := by simp [bv]
theorem bv_append (l m : List UInt8) : bv (l ++ m) = bv l ++ bv m := by simp [bv]
theorem bv_take (l : List UInt8) (n : Nat) : bv (l.take n) = (bv l).take n := by simp [bv]
theorem bv_drop (l : List UInt8) (n : Nat) : bv (l.drop n) = (bv l).drop n := by simp [bv]
theorem bv_get (l : List UInt8) (j : Nat) : (bv l)[j]? = (l[j]?).map fun b => Value.int .u8 (b.toNat : Int) := by simp [bv]
theorem bv_set (l : List UInt8) (j : Nat) (b : UInt8) : bv (l.set j b) = (bv l).set j (.int .u8 (b.toNat : Int)) := by simp [bv, List.map_set]
theorem bv_oneCell (l : List UInt8) : ∀ u ∈ bv l, u.oneCell' = true := by
  intro u hu
  obtain ⟨_, _, rfl⟩ := List.mem_map.1 hu
  rfl
theorem bv_inj {l m : List UInt8} (h : bv l = bv m) : l = m := by
  have hf : ∀ a b : UInt8, (Value.int .u8 (a.toNat : Int)) = .int .u8 (b.toNat : Int) → a = b := by
    intro a b h
    injection h with _ h
    exact UInt8.toNat.inj (by omega)
  exact (List.map_inj_right hf).1 h

/-! ### endings and worlds -/
theorem ret_bool {a b : Bool} (h : a = b) : Ending.returned (.bool a) = .returned (.bool b) := by rw [h]
theorem ret_int {k : IntKind} {a b : Int} (h : a = b) : Ending.returned (.int k a) = .returned (.int k b) := by rw [h]
/-- Some orders have been drawn, nothing else. -/
def Drawn (w w' : World) : Prop := ∃ n, w' = w.drewN n
theorem Drawn.refl (w : World) : Drawn w w := ⟨0, rfl⟩
theorem Drawn.mk (w : World) (n : Nat) : Drawn w (w.drewN n) := ⟨n, rfl⟩
theorem Drawn.step {w w' : World} (h : Drawn w w') (n : Nat) : Drawn w (w'.drewN n) := by
  obtain ⟨m, rfl⟩ := h
  exact ⟨m + n, World.drewN_drewN ..⟩
theorem Drawn.trans {a b c : World} (h : Drawn a b) (k : Drawn b c) : Drawn a c := by
  obtain ⟨n, rfl⟩ := k
  exact h.step n
theorem below_drewN {B : Nat} {w w' : World} (h : Below B w w') (n : Nat) : Below B w (w'.drewN n) := ⟨h.os, h.tape, h.output, h.size, h.block⟩
theorem Drawn.below {w w' : World} (h : Drawn w w') (B : Nat) : Below B w w' := by
  obtain ⟨n, rfl⟩ := h
  exact below_drewN (Below.refl _ _) n
theorem Drawn.heap {w w' : World} (h : Drawn w w') : w'.heap = w.heap := by
  obtain ⟨n, rfl⟩ := h
  rfl
theorem below_then {B : Nat} {w w1 w2 : World} (h : Below B w w1) (hB : B ≤ w1.heap.size) (k : Below w1.heap.size w1 w2) : Below B w w2 :=
  h.trans ⟨k.os, k.tape, k.output, k.size, fun i hi => k.block i (Nat.lt_of_lt_of_le hi hB)⟩

/-! ### addresses -/
theorem block_add (a : Addr) (n : Nat) : (a.add n).block = a.block := by unfold Addr.add; split <;> rfl
theorem add_zero (a : Addr) : a.add 0 = a := by unfold Addr.add; simp
theorem add_add (a : Addr) (i j : Nat) : (a.add i).add j = a.add (i + j) := by
  unfold Addr.add
  by_cases hi : i = 0 <;> by_cases hj : j = 0 <;> simp [hi, hj, Nat.add_assoc]
theorem add_lit0 (g j : Nat) : (⟨g, 0, none⟩ : Addr).add j = ⟨g, j, none⟩ := by unfold Addr.add; split <;> simp_all

/-! ### a slice that reads as a list of cells (nil, empty and other slices alike) -/
def RV (w : World) (A : Option Addr) (cs : List Value) : Prop :=
  0 < cs.length → ∃ ad, A = some ad ∧ ∀ j u, cs[j]? = some u → w.cell? (ad.add j) = some u

section
variable {w w' : World} {A : Option Addr} {cs : List Value}
theorem RV.nil (w : World) (A : Option Addr) : RV w A [] := fun h => absurd h (by simp)
theorem RV.at_ (h : RV w A cs) {k : Nat} (hk : k < cs.length) : ∃ ad, A = some ad ∧ w.cell? (ad.add k) = some cs[k] := by
  obtain ⟨ad, e, hc⟩ := h (by omega)
  exact ⟨ad, e, hc k _ (List.getElem?_eq_getElem hk)⟩
theorem RV.keep (h : RV w A cs) (hk : ∀ ad, A = some ad → 0 < cs.length → w'.heap[ad.block]? = w.heap[ad.block]?) : RV w' A cs := fun hn => by
  obtain ⟨ad, rfl, hc⟩ := h hn
  exact ⟨ad, rfl, fun j u hu => (World.cell?_of_block (by rw [block_add]; exact hk ad rfl hn)).trans (hc j u hu)⟩
theorem RV.lt (h : RV w A cs) {ad : Addr} (hA : A = some ad) (hn : 0 < cs.length) : ad.block < w.heap.size := by
  obtain ⟨ad', e, hc⟩ := h hn
  obtain rfl : ad = ad' := by rw [hA] at e; exact Option.some.inj e
  have := World.block_lt_of_cell? w _ (hc 0 _ (List.getElem?_eq_getElem hn))
  rwa [block_add] at this
theorem RV.below (h : RV w A cs) (hb : Below w.heap.size w w') : RV w' A cs :=
  h.keep fun _ hA hn => hb.block _ (h.lt hA hn)
theorem RV.grown (h : RV w A cs) {row : Option Nat} (hg : w.grownBy w' row) (hne : ∀ ad, A = some ad → 0 < cs.length → some ad.block ≠ row) : RV w' A cs :=
  h.keep fun _ hA hn => hg.block _ (h.lt hA hn) (hne _ hA hn)
theorem RV.drew (h : RV w A cs) : RV w.drew A cs := h
theorem RV.drewN (h : RV w A cs) (n : Nat) : RV (w.drewN n) A cs := h
theorem RV.alloc (h : RV w A cs) (o : Obj) : RV (w.alloc o) A cs := h.below ((Below.refl _ _).alloc (Nat.le_refl _) o)
theorem RV.setCell (h : RV w A cs) {p : Addr} (hp : ∀ ad, A = some ad → 0 < cs.length → ad.block ≠ p.block) (u : Value) : RV (w.setCell p u) A cs :=
  h.keep fun _ hA hn => Below.heap_setCell _ _ _ _ (hp _ hA hn)
theorem RV.take (h : RV w A cs) (k : Nat) : RV w A (cs.take k) := fun hn => by
  obtain ⟨ad, e, hc⟩ := h (by rw [List.length_take] at hn; omega)
  refine ⟨ad, e, fun j u hu => hc j u ?_⟩
  rw [List.getElem?_take] at hu
  split at hu
  · exact hu
  · cases hu
theorem RV.drop (h : RV w A cs) (k : Nat) : RV w (A.map (·.add k)) (cs.drop k) := fun hn => by
  rw [List.length_drop] at hn
  obtain ⟨ad, rfl, hc⟩ := h (by omega)
  refine ⟨ad.add k, rfl, fun j u hu => ?_⟩
  rw [add_add]
  exact hc _ u (by rw [← hu, List.getElem?_drop])
/-- The walk's own spelling of a cut: the address behind the capacity's end stays. -/
theorem RV.cut (h : RV w A cs) {k cap : Nat} (hc : cs.length ≤ cap) : RV w (if cap = k then A else A.map (·.add k)) (cs.drop k) := by
  by_cases hk : cap = k
  · rw [if_pos hk]
    have : cs.drop k = [] := List.drop_eq_nil_of_le (by omega)
    rw [this]
    exact RV.nil _ _
  · rw [if_neg hk]
    exact h.drop k
end

/-! ### a block of bytes that is known whole -/
def RowB (e : TypeId) (w : World) (g : Nat) (full : List UInt8) : Prop := w.heap[g]? = some (.cells (bv full).toArray e (0, 0))

section
variable {e : TypeId} {w w' : World} {g : Nat} {full : List UInt8}
theorem RowB.lt (h : RowB e w g full) : g < w.heap.size := (Array.getElem?_eq_some_iff.1 h).1
theorem RowB.cell (h : RowB e w g full) {j : Nat} {b : UInt8} (hj : full[j]? = some b) : w.cell? ⟨g, j, none⟩ = some (.int .u8 (b.toNat : Int)) := by
  rw [cell_of_row w g j _ e (0, 0) h]
  simp [bv, hj]
theorem RowB.frozen (h : RowB e w g full) (j : Nat) : w.frozen? ⟨g, j, none⟩ = false := frozen_of_row w g j _ e h
theorem RowB.set (h : RowB e w g full) (j : Nat) (b : UInt8) : RowB e (w.setCell ⟨g, j, none⟩ (.int .u8 (b.toNat : Int))) g (full.set j b) := by
  unfold RowB at h ⊢
  rw [heap_setCell_same w g j _ e _ h, bv_set]
  simp
theorem RowB.set' (h : RowB e w g full) (j : Nat) {n : Int} {b : UInt8} (hb : n = (b.toNat : Int)) : RowB e (w.setCell ⟨g, j, none⟩ (.int .u8 n)) g (full.set j b) := by
  subst hb
  exact h.set j b
theorem RowB.heap (h : RowB e w g full) (hh : w'.heap[g]? = w.heap[g]?) : RowB e w' g full := hh.trans h
theorem RowB.below {B : Nat} (h : RowB e w g full) (hb : Below B w w') (hg : g < B) : RowB e w' g full := (hb.block g hg).trans h
theorem RowB.belowAll (h : RowB e w g full) (hb : Below w.heap.size w w') : RowB e w' g full := h.below hb h.lt
theorem RowB.grown {row : Option Nat} (h : RowB e w g full) (hb : w.grownBy w' row) (hg : some g ≠ row) : RowB e w' g full := (hb.block g h.lt hg).trans h
theorem RowB.alloc (h : RowB e w g full) (o : Obj) : RowB e (w.alloc o) g full := (Below.heap_alloc w o g h.lt).trans h
theorem RowB.far (h : RowB e w g full) {p : Addr} (hp : g ≠ p.block) (u : Value) : RowB e (w.setCell p u) g full := (Below.heap_setCell w p u g hp).trans h
theorem RowB.rv (h : RowB e w g full) : RV w (some ⟨g, 0, none⟩) (bv full) := fun _ => ⟨_, rfl, fun j u hu => by
  rw [add_lit0, cell_of_row w g j _ e (0, 0) h]
  simpa using hu⟩
theorem RowB.made (w : World) (e : TypeId) (m : Nat) : RowB e (w.alloc (.cells (madeCells #[.int .u8 0] m) e)) w.heap.size (List.replicate m 0) := by
  unfold RowB
  rw [heap_alloc_new]
  have h : (madeCells #[Value.int .u8 0] m) = (bv (List.replicate m 0)).toArray := by
    apply Array.toList_inj.1
    rw [toList_madeCells_one]
    simp [bv]
  rw [h]
theorem RowB.new (w : World) (e : TypeId) (l : List UInt8) : RowB e (w.alloc (.cells (bv l).toArray e)) w.heap.size l := heap_alloc_new w _
end

/-! ### a slice of bytes of the call's own: nil, or at the head of a block from 'base' on whose cells are bytes, spare ones too -/
def OwnB (e : TypeId) (w : World) (base : Nat) (v : Value) (xs : List UInt8) : Prop :=
  (v = .slice none 0 0 ∧ xs = []) ∨
  ∃ g full, v = .slice (some ⟨g, 0, none⟩) xs.length full.length ∧ base ≤ g ∧ RowB e w g full ∧ full.take xs.length = xs ∧ full.length ≤ maxLen

section
variable {e : TypeId} {w w' : World} {base : Nat} {v : Value} {xs : List UInt8}
theorem OwnB.nil (e : TypeId) (w : World) (base : Nat) : OwnB e w base (.slice none 0 0) [] := .inl ⟨rfl, rfl⟩
theorem OwnB.len {g : Nat} {full : List UInt8} (h : full.take xs.length = xs) : xs.length ≤ full.length := by
  have := congrArg List.length h
  rw [List.length_take] at this
  omega
theorem OwnB.slice (h : OwnB e w base v xs) : ∃ A c, v = .slice A xs.length c ∧ RV w A (bv xs) ∧ xs.length ≤ c ∧ c ≤ maxLen ∧ (∀ ad, A = some ad → some ad.block = v.ownBlock) := by
  rcases h with ⟨rfl, rfl⟩ | ⟨g, full, rfl, hb, hr, ht, hm⟩
  · exact ⟨none, 0, rfl, RV.nil _ _, by simp, by simp, fun _ h => by cases h⟩
  · have hl := OwnB.len (g := g) ht
    refine ⟨_, _, rfl, ?_, hl, hm, fun ad h => ?_⟩
    · have := hr.rv.take xs.length
      rwa [← bv_take, ht] at this
    · obtain rfl := Option.some.inj h
      rfl
theorem OwnB.blk (h : OwnB e w base v xs) {k : Nat} (hk : v.ownBlock = some k) : base ≤ k ∧ k < w.heap.size := by
  rcases h with ⟨rfl, rfl⟩ | ⟨g, full, rfl, hb, hr, ht, hm⟩
  · simp [Value.ownBlock] at hk
  · obtain rfl : g = k := by simpa [Value.ownBlock] using hk
    exact ⟨hb, hr.lt⟩
theorem OwnB.kept {row : Option Nat} (h : OwnB e w base v xs) (hg : w.grownBy w' row) (hne : v.ownBlock = none ∨ v.ownBlock ≠ row) : OwnB e w' base v xs := by
  rcases h with h | ⟨g, full, rfl, hb, hr, ht, hm⟩
  · exact .inl h
  · exact .inr ⟨g, full, rfl, hb, hr.grown hg (by simpa [Value.ownBlock] using hne), ht, hm⟩
theorem OwnB.below (h : OwnB e w base v xs) (hb : Below w.heap.size w w') : OwnB e w' base v xs := by
  rcases h with h | ⟨g, full, rfl, hg, hr, ht, hm⟩
  · exact .inl h
  · exact .inr ⟨g, full, rfl, hg, hr.belowAll hb, ht, hm⟩
theorem OwnB.setOther (h : OwnB e w base v xs) {g i : Nat} (hg : g < base) (u : Value) : OwnB e (w.setCell ⟨g, i, none⟩ u) base v xs := by
  rcases h with h | ⟨k, full, rfl, hb, hr, ht, hm⟩
  · exact .inl h
  · exact .inr ⟨k, full, rfl, hb, hr.far (p := ⟨g, i, none⟩) (fun e => by simp at e; omega) _, ht, hm⟩
theorem OwnB.drawn (h : OwnB e w base v xs) (hd : Drawn w w') : OwnB e w' base v xs := h.below (hd.below _)
theorem OwnB.lower {b : Nat} (h : OwnB e w base v xs) (hb : b ≤ base) : OwnB e w b v xs := by
  rcases h with h | ⟨g, full, rfl, hg, hr, ht, hm⟩
  · exact .inl h
  · exact .inr ⟨g, full, rfl, by omega, hr, ht, hm⟩
theorem OwnB.whole {g : Nat} {l : List UInt8} (hb : base ≤ g) (h : RowB e w g l) (hm : l.length ≤ maxLen) : OwnB e w base (.slice (some ⟨g, 0, none⟩) l.length l.length) l :=
  .inr ⟨g, l, rfl, hb, h, List.take_length, hm⟩
end

/-! ### make([]byte, n) -/
theorem make_bytes {P : Program} (t e : TypeId) (ht : P.underlying t = some (.slice e)) (hinfo : (P.info? e).map (fun i => (i.zero, i.size, i.bytes)) = some (some (.int .u8 0), 1, 1)) (m : Nat) (hn : m ≤ 281474976710656) :
    ∀ W : World, (Instr.makeSlice t (.int .i64 (m : Int)) (.int .i64 (m : Int))).run P W = .ok (.slice (some ⟨W.heap.size, 0, none⟩) m m) (W.alloc (.cells (madeCells #[.int .u8 0] m) e)) := by
  intro W
  exact run_make_row' t e (.int .u8 0) 1 ht hinfo rfl .i64 .i64 m (by omega) (by omega) W

/-! ### numbers as bytes -/
def digs (n s : Nat) : List UInt8 := (List.range s).map fun i => UInt8.ofNat (n / 256 ^ i)
theorem digs_length (n s : Nat) : (digs n s).length = s := by simp [digs]
theorem digs_get {n s j : Nat} (h : j < s) : (digs n s)[j]? = some (UInt8.ofNat (n / 256 ^ j)) := by simp [digs, h]

end Go.Proofs.Ytlioclicopakbaa

/- A block that is known whole; what is written, and what is not. -/
namespace Go.Proofs.Ytlioclicopakbaa
open Go.RowKit

/-! ### a block that is known whole -/
def Blk (w : World) (g : Nat) (t : TypeId) (cs : Array Value) : Prop := w.heap[g]? = some (.cells cs t (0, 0))
section
variable {w w' : World} {g : Nat} {t : TypeId} {cs : Array Value}
theorem Blk.lt (h : Blk w g t cs) : g < w.heap.size := (Array.getElem?_eq_some_iff.1 h).1
theorem Blk.cell (h : Blk w g t cs) (i : Nat) : w.cell? ⟨g, i, none⟩ = cs[i]? := cell_of_row w g i cs t (0, 0) h
theorem Blk.frozen (h : Blk w g t cs) (i : Nat) : w.frozen? ⟨g, i, none⟩ = false := frozen_of_row w g i cs t h
theorem alloc_sz (w : World) (o : Obj) : (w.alloc o).heap.size = w.heap.size + 1 := by simp
theorem Blk.new (w : World) (t : TypeId) (cs : Array Value) : Blk (w.alloc (.cells cs t)) w.heap.size t cs := heap_alloc_new w _
theorem Blk.heap (h : Blk w g t cs) (hh : w'.heap[g]? = w.heap[g]?) : Blk w' g t cs := hh.trans h
theorem Blk.alloc (h : Blk w g t cs) (o : Obj) : Blk (w.alloc o) g t cs := (Below.heap_alloc w o g h.lt).trans h
theorem Blk.set_ (h : Blk w g t cs) (i : Nat) (u : Value) : Blk (w.setCell ⟨g, i, none⟩ u) g t (cs.setIfInBounds i u) := by
  unfold Blk at h ⊢
  simp [World.setCell, Array.getElem?_modify, h]
theorem Blk.far (h : Blk w g t cs) {p : Addr} (hp : g ≠ p.block) (u : Value) : Blk (w.setCell p u) g t cs := (Below.heap_setCell w p u g hp).trans h
theorem Blk.below {B : Nat} (h : Blk w g t cs) (hb : Below B w w') (hg : g < B) : Blk w' g t cs := (hb.block g hg).trans h
theorem Blk.grown {row : Option Nat} (h : Blk w g t cs) (hb : w.grownBy w' row) (hg : some g ≠ row) : Blk w' g t cs := (hb.block g h.lt hg).trans h
end
theorem grown_setCell (w : World) (g i : Nat) (u : Value) : w.grownBy (w.setCell ⟨g, i, none⟩ u) (some g) :=
  ⟨rfl, rfl, rfl, by simp [World.setCell], fun k _ hk => Below.heap_setCell _ _ _ _ (fun e => hk (by rw [e]))⟩
theorem grown_refl (w : World) (row : Option Nat) : w.grownBy w row := World.grownBy.refl w row
theorem grown_trans {a b c : World} {row : Option Nat} (h : a.grownBy b row) (k : b.grownBy c row) : a.grownBy c row :=
  ⟨k.os.trans h.os, k.tape.trans h.tape, k.output.trans h.output, Nat.le_trans h.size k.size, fun i hi hr => (k.block i (Nat.lt_of_lt_of_le hi h.size) hr).trans (h.block i hi hr)⟩
theorem grown_of_below {w w1 : World} (h : Below w.heap.size w w1) (row : Option Nat) : w.grownBy w1 row := ⟨h.os, h.tape, h.output, h.size, fun i hi _ => h.block i hi⟩
theorem grown_drewN (w : World) (n : Nat) (row : Option Nat) : w.grownBy (w.drewN n) row := grown_of_below (below_drewN (Below.refl _ _) n) row
theorem below_grown {B : Nat} {a b c : World} {g : Nat} (h : Below B a b) (hg : b.grownBy c (some g)) (hB : B ≤ b.heap.size) (hr : B ≤ g) : Below B a c :=
  h.grown hg hB (fun k e => by injection e with e; omega)
/-- A row that was not there is no row. -/
theorem grown_new {a b : World} {g : Nat} (h : a.grownBy b (some g)) (hg : a.heap.size ≤ g) : Below a.heap.size a b :=
  ⟨h.os, h.tape, h.output, h.size, fun i hi => h.block i hi (fun e => by injection e with e; omega)⟩
theorem grown_none {a b : World} (h : a.grownBy b none) : Below a.heap.size a b :=
  ⟨h.os, h.tape, h.output, h.size, fun i hi => h.block i hi (by simp)⟩
end Go.Proofs.Ytlioclicopakbaa

/- Keys, plain: what may be, which stands ahead of which, their bytes. -/
namespace Go.Proofs.Ytlioclicopakbaa
open Go.RowKit

/-- A key. -/
structure Ky where
  ino : Int
  what : UInt8
  name : ByteArray
  chunk : Int
deriving DecidableEq
def Ky.val (k : Ky) : Value := .agg #[.int .i64 k.ino, .int .u8 (k.what.toNat : Int), .string k.name, .int .i64 k.chunk]

/-- What a comparison answers. -/
def cmpI (x y : Int) : Int := if x < y then -1 else if y < x then 1 else 0
def cmpB (x y : ByteArray) : Int := if Op.bytesLess x.toList y.toList = true then -1 else if x.toList = y.toList then 0 else 1
/-- The first one that is not 0. -/
def orI : List Int → Int
  | [] => 0
  | a :: r => if a = 0 then orI r else a
def ordK (a b : Ky) : Int := orI [cmpI a.ino b.ino, cmpI (a.what.toNat : Int) (b.what.toNat : Int), cmpB a.name b.name, cmpI a.chunk b.chunk]
def keyLt (a b : Ky) : Prop := ordK a b < 0
instance (a b : Ky) : Decidable (keyLt a b) := by unfold keyLt; exact inferInstance

/-- May a byte stand in a name? -/
def mayB (b : UInt8) : Prop := (97 ≤ b.toNat ∧ b.toNat ≤ 122) ∨ (48 ≤ b.toNat ∧ b.toNat ≤ 57) ∨ b.toNat = 46 ∨ b.toNat = 45
instance (b : UInt8) : Decidable (mayB b) := by unfold mayB; exact inferInstance
def nameL (l : List UInt8) : Prop := (∀ b ∈ l, mayB b) ∧ 1 ≤ l.length ∧ l.length ≤ 12 ∧ l ≠ [46] ∧ l ≠ [46, 46]
instance (l : List UInt8) : Decidable (nameL l) := by unfold nameL; exact inferInstance
def nameS (s : ByteArray) : Prop := nameL s.data.toList
instance (s : ByteArray) : Decidable (nameS s) := by unfold nameS; exact inferInstance
def mayK (k : Ky) : Prop := 1 ≤ k.ino ∧ k.ino ≤ 65535 ∧
  ((k.what = 1 ∧ k.name = .empty ∧ k.chunk = 0) ∨ (k.what = 2 ∧ nameS k.name ∧ k.chunk = 0) ∨ (k.what = 3 ∧ k.name = .empty ∧ 0 ≤ k.chunk ∧ k.chunk < 8))
instance (k : Ky) : Decidable (mayK k) := by unfold mayK; exact inferInstance
/-- A key's bytes, if it may be. -/
def keyB (k : Ky) : List UInt8 := digs k.ino.toNat 2 ++ [k.what] ++ (if k.what = 2 then UInt8.ofNat k.name.data.toList.length :: k.name.data.toList else if k.what = 3 then [UInt8.ofNat k.chunk.toNat] else [])
def putKeyS (k : Ky) : List UInt8 × Nat := if mayK k then (keyB k, 0) else ([], 2)
theorem keyB_length {k : Ky} (h : mayK k) : 3 ≤ (keyB k).length ∧ (keyB k).length ≤ 16 := by
  unfold keyB
  rcases h.2.2 with ⟨e, _⟩ | ⟨e, hn, _⟩ | ⟨e, _⟩
  · rw [e]; simp [digs_length]
  · rw [e]
    have h1 := hn.2.1
    have h2 := hn.2.2.1
    simp only [if_pos, List.length_append, digs_length, List.length_cons, List.length_nil]
    omega
  · rw [e]; simp [digs_length]
end Go.Proofs.Ytlioclicopakbaa

/- Keys stand in a row, plain. -/
namespace Go.Proofs.Ytlioclicopakbaa
open Go.RowKit

theorem u8_lt (a b : UInt8) : a < b ↔ a.toNat < b.toNat := UInt8.lt_iff_toNat_lt
theorem bless_irrefl : ∀ x : List UInt8, Op.bytesLess x x = false
  | [] => rfl
  | a :: x => by simp [Op.bytesLess, bless_irrefl x, u8_lt]
theorem bless_trans : ∀ x y z : List UInt8, Op.bytesLess x y = true → Op.bytesLess y z = true → Op.bytesLess x z = true
  | _, [], _, h, _ => by simp [Op.bytesLess] at h
  | _, _ :: _, [], _, h => by simp [Op.bytesLess] at h
  | [], _ :: _, _ :: _, _, _ => rfl
  | a :: x, b :: y, c :: z, h, k => by
    simp only [Op.bytesLess, Bool.or_eq_true, decide_eq_true_eq, Bool.and_eq_true, beq_iff_eq, u8_lt] at h k ⊢
    rcases h with h | ⟨rfl, h⟩
    · rcases k with k | ⟨rfl, k⟩
      · left; omega
      · left; exact h
    · rcases k with k | ⟨rfl, k⟩
      · left; exact k
      · right; exact ⟨rfl, bless_trans x y z h k⟩
theorem bless_total : ∀ x y : List UInt8, x = y ∨ Op.bytesLess x y = true ∨ Op.bytesLess y x = true
  | [], [] => .inl rfl
  | [], _ :: _ => .inr (.inl rfl)
  | _ :: _, [] => .inr (.inr rfl)
  | a :: x, b :: y => by
    simp only [Op.bytesLess, Bool.or_eq_true, decide_eq_true_eq, Bool.and_eq_true, beq_iff_eq, u8_lt, List.cons.injEq]
    by_cases h : a = b
    · subst h
      rcases bless_total x y with h | h | h
      · exact .inl ⟨rfl, h⟩
      · exact .inr (.inl (.inr ⟨rfl, h⟩))
      · exact .inr (.inr (.inr ⟨rfl, h⟩))
    · have : a.toNat ≠ b.toNat := fun e => h (UInt8.toNat.inj e)
      rcases Nat.lt_or_gt_of_ne this with h | h
      · exact .inr (.inl (.inl h))
      · exact .inr (.inr (.inl h))
theorem ba_ext {a b : ByteArray} (h : a.toList = b.toList) : a = b := by
  rw [ByteArray.toList_eq, ByteArray.toList_eq] at h
  exact ByteArray.ext (Array.toList_inj.1 h)
theorem keyLt_iff (a b : Ky) : keyLt a b ↔ a.ino < b.ino ∨ a.ino = b.ino ∧ (a.what.toNat < b.what.toNat ∨ a.what = b.what ∧ (Op.bytesLess a.name.toList b.name.toList = true ∨ a.name = b.name ∧ a.chunk < b.chunk)) := by
  have c1 : ∀ x y : Int, cmpI x y = 0 ↔ x = y := fun x y => by
    unfold cmpI; split
    · simp; omega
    · split
      · simp; omega
      · simp; omega
  have c2 : ∀ x y : Int, cmpI x y < 0 ↔ x < y := fun x y => by
    unfold cmpI; split
    · simp; omega
    · split
      · simp; omega
      · simp; omega
  have b1 : ∀ x y : ByteArray, cmpB x y = 0 ↔ x = y := fun x y => by
    unfold cmpB; split
    · rename_i h
      constructor
      · intro h'; cases h'
      · rintro rfl; rw [bless_irrefl] at h; cases h
    · split
      · rename_i h; exact ⟨fun _ => ba_ext h, fun _ => rfl⟩
      · rename_i h
        constructor
        · intro h'; cases h'
        · rintro rfl; exact absurd rfl h
  have b2 : ∀ x y : ByteArray, cmpB x y < 0 ↔ Op.bytesLess x.toList y.toList = true := fun x y => by
    unfold cmpB; split
    · rename_i h; simp [h]
    · rename_i h
      split
      · simp [h]
      · simp [h]
  have w : (a.what.toNat : Int) = b.what.toNat ↔ a.what = b.what := ⟨fun h => UInt8.toNat.inj (by omega), fun h => by rw [h]⟩
  unfold keyLt ordK
  simp only [orI, c1, w, b1]
  by_cases h1 : a.ino = b.ino
  · simp only [h1, if_true, true_and, Int.lt_irrefl, false_or]
    by_cases h2 : a.what = b.what
    · simp only [h2, if_true, true_and, Nat.lt_irrefl, false_or]
      by_cases h3 : a.name = b.name
      · have hi := bless_irrefl b.name.toList
        simp only [h3, if_true, true_and, hi, Bool.false_eq_true, false_or]
        by_cases h4 : a.chunk = b.chunk
        · simp [h4]
        · simp only [if_neg h4, c2]
      · simp only [h3, if_false, b2, false_and, or_false]
    · simp only [h2, if_false, c2, false_and, or_false]
      omega
  · simp only [h1, if_false, c2, false_and, or_false]
theorem keyLt_irrefl (a : Ky) : ¬ keyLt a a := by
  rw [keyLt_iff, bless_irrefl]
  simp
theorem keyLt_trans {a b c : Ky} (h : keyLt a b) (k : keyLt b c) : keyLt a c := by
  rw [keyLt_iff] at h k ⊢
  rcases h with h | ⟨h1, h⟩
  · rcases k with k | ⟨k1, k⟩
    · left; omega
    · left; omega
  · rcases k with k | ⟨k1, k⟩
    · left; omega
    · refine .inr ⟨h1.trans k1, ?_⟩
      rcases h with h | ⟨h2, h⟩
      · rcases k with k | ⟨k2, k⟩
        · left; omega
        · left; rw [← k2]; exact h
      · rcases k with k | ⟨k2, k⟩
        · left; rw [h2]; exact k
        · refine .inr ⟨h2.trans k2, ?_⟩
          rcases h with h | ⟨h3, h⟩
          · rcases k with k | ⟨k3, k⟩
            · exact .inl (bless_trans _ _ _ h k)
            · left; rw [← k3]; exact h
          · rcases k with k | ⟨k3, k⟩
            · left; rw [h3]; exact k
            · exact .inr ⟨h3.trans k3, by omega⟩
theorem keyLt_total (a b : Ky) : a = b ∨ keyLt a b ∨ keyLt b a := by
  rw [keyLt_iff, keyLt_iff]
  rcases Int.lt_trichotomy a.ino b.ino with h | h | h
  · exact .inr (.inl (.inl h))
  · by_cases h2 : a.what = b.what
    · rcases bless_total a.name.toList b.name.toList with h3 | h3 | h3
      · rcases Int.lt_trichotomy a.chunk b.chunk with h4 | h4 | h4
        · exact .inr (.inl (.inr ⟨h, .inr ⟨h2, .inr ⟨ba_ext h3, h4⟩⟩⟩))
        · left
          obtain ⟨a1, a2, a3, a4⟩ := a
          obtain ⟨b1, b2, b3, b4⟩ := b
          simp only at h h2 h4
          have := ba_ext h3
          simp only at this
          rw [h, h2, h4, this]
        · exact .inr (.inr (.inr ⟨h.symm, .inr ⟨h2.symm, .inr ⟨(ba_ext h3).symm, h4⟩⟩⟩))
      · exact .inr (.inl (.inr ⟨h, .inr ⟨h2, .inl h3⟩⟩))
      · exact .inr (.inr (.inr ⟨h.symm, .inr ⟨h2.symm, .inl h3⟩⟩))
    · have : a.what.toNat ≠ b.what.toNat := fun e => h2 (UInt8.toNat.inj e)
      rcases Nat.lt_or_gt_of_ne this with h3 | h3
      · exact .inr (.inl (.inr ⟨h, .inl h3⟩))
      · exact .inr (.inr (.inr ⟨h.symm, .inl h3⟩))
  · exact .inr (.inr (.inl h))
theorem keyLt_asymm {a b : Ky} (h : keyLt a b) : ¬ keyLt b a := fun k => keyLt_irrefl a (keyLt_trans h k)
theorem keyLt_ne {a b : Ky} (h : keyLt a b) : a ≠ b := fun e => keyLt_irrefl a (by rw [← e] at h; exact h)
end Go.Proofs.Ytlioclicopakbaa

/- Layer 2, plain: noughts, blank, pages, what pages say, what is less. No program in sight. -/
namespace Go.Proofs.Ytlioclicopakbaa

/-- How many of the lowest j bits are 0. -/
def zerosTo (n : Nat) : Nat → Nat
  | 0 => 0
  | j + 1 => zerosTo n j + if n / 2 ^ j % 2 = 0 then 1 else 0
def zeros (b : UInt8) : Nat := zerosTo b.toNat 8
def noughts : List UInt8 → Nat
  | [] => 0
  | b :: r => zeros b + noughts r
theorem noughts_append (l m : List UInt8) : noughts (l ++ m) = noughts l + noughts m := by
  induction l with
  | nil => simp [noughts]
  | cons a l ih => simp only [List.cons_append, noughts, ih]; omega
theorem zerosTo_le (n j : Nat) : zerosTo n j ≤ j := by
  induction j with
  | zero => simp [zerosTo]
  | succ j ih => simp only [zerosTo]; split <;> omega
theorem zeros_le (b : UInt8) : zeros b ≤ 8 := zerosTo_le _ _
theorem noughts_le (l : List UInt8) : noughts l ≤ 8 * l.length := by
  induction l with
  | nil => simp [noughts]
  | cons a l ih => have := zeros_le a; simp only [noughts, List.length_cons]; omega

theorem zerosTo_bit (n j : Nat) : zerosTo n (j + 1) = zerosTo n j + if n.testBit j then 0 else 1 := by
  simp only [zerosTo, Nat.testBit_eq_decide_div_mod_eq]
  have : n / 2 ^ j % 2 = 0 ∨ n / 2 ^ j % 2 = 1 := by omega
  rcases this with h | h <;> simp [h]
/-- More bits that are 1: fewer noughts; as many, just where nothing has turned. -/
theorem zerosTo_or (n m j : Nat) : zerosTo (n ||| m) j ≤ zerosTo n j ∧ (zerosTo (n ||| m) j = zerosTo n j → ∀ i, i < j → (n ||| m).testBit i = n.testBit i) := by
  induction j with
  | zero => exact ⟨Nat.le_refl _, fun _ i hi => absurd hi (Nat.not_lt_zero _)⟩
  | succ j ih =>
    have hb : (n ||| m).testBit j = (n.testBit j || m.testBit j) := Nat.testBit_or n m j
    rw [zerosTo_bit, zerosTo_bit, hb]
    obtain ⟨h1, h2⟩ := ih
    refine ⟨?_, fun he i hi => ?_⟩
    · cases n.testBit j <;> cases m.testBit j <;> simp <;> omega
    · have hj : zerosTo (n ||| m) j = zerosTo n j ∧ (n.testBit j || m.testBit j) = n.testBit j := by
        cases hn : n.testBit j <;> cases hm : m.testBit j <;> simp [hn, hm] at he ⊢ <;> omega
      rcases Nat.lt_succ_iff_lt_or_eq.1 hi with h | rfl
      · exact h2 hj.1 i h
      · rw [hb, hj.2]
theorem testBit_big (b : UInt8) (i : Nat) (hi : 8 ≤ i) : b.toNat.testBit i = false := by
  apply Nat.testBit_lt_two_pow
  have := b.toNat_lt
  exact Nat.lt_of_lt_of_le this (Nat.pow_le_pow_right (by decide) hi)
theorem zeros_or (a m : UInt8) : zeros (a ||| m) ≤ zeros a ∧ (zeros (a ||| m) = zeros a → a ||| m = a) := by
  have e : (a ||| m).toNat = a.toNat ||| m.toNat := UInt8.toNat_or a m
  unfold zeros
  rw [e]
  refine ⟨(zerosTo_or _ _ _).1, fun h => ?_⟩
  apply UInt8.toNat.inj
  rw [e]
  apply Nat.eq_of_testBit_eq
  intro i
  by_cases hi : i < 8
  · exact (zerosTo_or _ _ _).2 h i hi
  · rw [Nat.testBit_or, testBit_big a i (by omega), testBit_big m i (by omega)]
    rfl

/-- Bytes with more bits that are 1. -/
def Up (l m : List UInt8) : Prop := l.length = m.length ∧ ∀ (i : Nat) (a b : UInt8), l[i]? = some a → m[i]? = some b → ∃ x : UInt8, b = a ||| x
theorem Up.cons {a b : UInt8} {l m : List UInt8} (h : Up (a :: l) (b :: m)) : (∃ x, b = a ||| x) ∧ Up l m :=
  ⟨h.2 0 a b rfl rfl, by have := h.1; simpa using this, fun i x y hx hy => h.2 (i + 1) x y hx hy⟩
theorem Up.noughts {l m : List UInt8} (h : Up l m) : noughts m ≤ noughts l ∧ (noughts m = noughts l → m = l) := by
  induction l generalizing m with
  | nil =>
    have : m = [] := List.eq_nil_of_length_eq_zero h.1.symm
    subst this
    exact ⟨Nat.le_refl _, fun _ => rfl⟩
  | cons a l ih =>
    cases m with
    | nil => have := h.1; simp at this
    | cons b m =>
      obtain ⟨⟨x, rfl⟩, h2⟩ := h.cons
      obtain ⟨h3, h4⟩ := ih h2
      obtain ⟨h5, h6⟩ := zeros_or a x
      simp only [Proofs.Ytlioclicopakbaa.noughts]
      refine ⟨by omega, fun he => ?_⟩
      rw [h6 (by omega), h4 (by omega)]
theorem Up.refl (l : List UInt8) : Up l l := ⟨rfl, fun i a b ha hb => ⟨0, by rw [ha] at hb; injection hb with hb; rw [← hb]; simp⟩⟩
theorem Up.trans {l m n : List UInt8} (h : Up l m) (k : Up m n) : Up l n :=
  ⟨h.1.trans k.1, fun i a c ha hc => by
    have hi : i < m.length := by rw [← h.1]; exact (List.getElem?_eq_some_iff.1 ha).1
    obtain ⟨x, hx⟩ := h.2 i a m[i] ha (List.getElem?_eq_getElem hi)
    obtain ⟨y, hy⟩ := k.2 i m[i] c (List.getElem?_eq_getElem hi) hc
    exact ⟨x ||| y, by rw [hy, hx, UInt8.or_assoc]⟩⟩
theorem Up.drop {l m : List UInt8} (h : Up l m) (n : Nat) : Up (l.drop n) (m.drop n) :=
  ⟨by rw [List.length_drop, List.length_drop, h.1], fun i a b ha hb => h.2 (n + i) a b (by rw [← ha, List.getElem?_drop]) (by rw [← hb, List.getElem?_drop])⟩

/-! ### pages -/
def isPage (n : Nat) : Prop := 128 ≤ n ∧ n ≤ 256
instance (n : Nat) : Decidable (isPage n) := by unfold isPage; exact inferInstance
/-- All but the count. -/
def tailS (size : Nat) (kind : UInt8) (body : List UInt8) : List UInt8 := kind :: (digs body.length 2 ++ (body ++ List.replicate (size - 5 - body.length) 255))
def pageS (size : Nat) (kind : UInt8) (body : List UInt8) : List UInt8 := digs (noughts (tailS size kind body)) 2 ++ tailS size kind body
def blankS (b : List UInt8) : Prop := ∀ x ∈ b, x = 255
instance (b : List UInt8) : Decidable (blankS b) := by unfold blankS; exact inferInstance
theorem digs2 (n : Nat) : digs n 2 = [UInt8.ofNat n, UInt8.ofNat (n / 256)] := by simp [digs, List.range_succ]
theorem tailS_length {size : Nat} {kind : UInt8} {body : List UInt8} (hs : isPage size) (hb : body.length ≤ size - 5) : (tailS size kind body).length = size - 2 := by
  unfold isPage at hs
  simp [tailS, digs_length]
  omega
theorem pageS_length {size : Nat} {kind : UInt8} {body : List UInt8} (hs : isPage size) (hb : body.length ≤ size - 5) : (pageS size kind body).length = size := by
  unfold pageS
  rw [List.length_append, digs_length, tailS_length hs hb]
  unfold isPage at hs
  omega
/-- What bytes say: kind, body, error. -/
def getS (b : List UInt8) : Nat × List UInt8 × Nat :=
  if ¬ isPage b.length then (0, [], 2)
  else if blankS b then (0, [], 6)
  else if (b.getD 0 0).toNat + 256 * (b.getD 1 0).toNat ≠ noughts (b.drop 2) then (0, [], 7)
  else if (b.getD 2 0).toNat < 1 ∨ 7 < (b.getD 2 0).toNat ∨ b.length - 5 < (b.getD 3 0).toNat + 256 * (b.getD 4 0).toNat ∨ ¬ blankS (b.drop (5 + ((b.getD 3 0).toNat + 256 * (b.getD 4 0).toNat))) then (0, [], 5)
  else ((b.getD 2 0).toNat, (b.drop 5).take ((b.getD 3 0).toNat + 256 * (b.getD 4 0).toNat), 0)
def putPageS (size : Int) (kind : UInt8) (body : List UInt8) : List UInt8 × Nat :=
  if ¬ (128 ≤ size ∧ size ≤ 256) ∨ kind.toNat < 1 ∨ 7 < kind.toNat then ([], 2)
  else if size.toNat - 5 < body.length then ([], 3)
  else (pageS size.toNat kind body, 0)
def bodyS (size : Int) : Nat := if 128 ≤ size ∧ size ≤ 256 then size.toNat - 5 else 0
end Go.Proofs.Ytlioclicopakbaa

/- Layer 2, plain: a page says what it was made of, and is the only one that says it. -/
namespace Go.Proofs.Ytlioclicopakbaa

theorem two_bytes {n : Nat} (h : n < 65536) : (UInt8.ofNat n).toNat + 256 * (UInt8.ofNat (n / 256)).toNat = n := by
  simp only [UInt8.toNat_ofNat']
  omega
theorem bytes_two (a b : UInt8) : digs (a.toNat + 256 * b.toNat) 2 = [a, b] := by
  have h1 := a.toNat_lt
  have h2 := b.toNat_lt
  rw [digs2]
  have e1 : UInt8.ofNat (a.toNat + 256 * b.toNat) = a := by
    apply UInt8.toNat.inj
    rw [UInt8.toNat_ofNat']
    omega
  have e2 : UInt8.ofNat ((a.toNat + 256 * b.toNat) / 256) = b := by
    apply UInt8.toNat.inj
    rw [UInt8.toNat_ofNat']
    omega
  rw [e1, e2]
theorem blank_rep {l : List UInt8} (h : blankS l) : l = List.replicate l.length 255 := List.eq_replicate_iff.2 ⟨rfl, h⟩
theorem blankS_rep (n : Nat) : blankS (List.replicate n 255) := fun x hx => (List.mem_replicate.1 hx).2

theorem getS_page {s : Nat} {kind : UInt8} {body : List UInt8} (hs : isPage s) (hk1 : 1 ≤ kind.toNat) (hk7 : kind.toNat ≤ 7) (hb : body.length ≤ s - 5) : getS (pageS s kind body) = (kind.toNat, body, 0) := by
  have hl := pageS_length (kind := kind) hs hb
  have htl := tailS_length (kind := kind) hs hb
  have hN := noughts_le (tailS s kind body)
  have hbl : ¬ blankS (pageS s kind body) := fun h => by
    have h255 : kind = 255 := h kind (by unfold pageS tailS; simp)
    rw [h255] at hk7
    exact absurd hk7 (by decide)
  unfold isPage at hs
  have e2 : (pageS s kind body).drop 2 = tailS s kind body := by
    unfold pageS
    rw [List.drop_left' (digs_length _ 2)]
  have hc : pageS s kind body = UInt8.ofNat (noughts (tailS s kind body)) :: UInt8.ofNat (noughts (tailS s kind body) / 256) :: kind :: UInt8.ofNat body.length :: UInt8.ofNat (body.length / 256) :: (body ++ List.replicate (s - 5 - body.length) 255) := by
    unfold pageS
    rw [digs2]
    conv => lhs; rhs; unfold tailS
    rw [digs2]
    rfl
  have hrest : (pageS s kind body).drop 5 = body ++ List.replicate (s - 5 - body.length) 255 := by rw [hc]; rfl
  have hrest2 : (pageS s kind body).drop (5 + body.length) = List.replicate (s - 5 - body.length) 255 := by
    rw [← List.drop_drop, hrest, List.drop_left]
  have g0 : (pageS s kind body).getD 0 0 = UInt8.ofNat (noughts (tailS s kind body)) := by rw [hc]; rfl
  have g1 : (pageS s kind body).getD 1 0 = UInt8.ofNat (noughts (tailS s kind body) / 256) := by rw [hc]; rfl
  have g2 : (pageS s kind body).getD 2 0 = kind := by rw [hc]; rfl
  have g3 : (pageS s kind body).getD 3 0 = UInt8.ofNat body.length := by rw [hc]; rfl
  have g4 : (pageS s kind body).getD 4 0 = UInt8.ofNat (body.length / 256) := by rw [hc]; rfl
  unfold getS
  rw [hl, if_neg (by unfold isPage; omega), if_neg hbl, g0, g1, g2, g3, g4, e2, two_bytes (n := noughts (tailS s kind body)) (by omega), two_bytes (n := body.length) (by omega), if_neg (by simp), hrest2, hrest, if_neg (by
    rintro (h | h | h | h)
    · omega
    · omega
    · omega
    · exact h (blankS_rep _)), List.take_left]

theorem getS_ok {b : List UInt8} {r : Nat × List UInt8 × Nat} (h : getS b = r) (h0 : r.2.2 = 0) :
    isPage b.length ∧ 1 ≤ r.1 ∧ r.1 ≤ 7 ∧ r.2.1.length ≤ b.length - 5 ∧ pageS b.length (UInt8.ofNat r.1) r.2.1 = b := by
  subst h
  unfold getS at h0 ⊢
  by_cases hp : isPage b.length
  · rw [if_neg (Classical.not_not.2 hp)] at h0 ⊢
    by_cases hb : blankS b
    · rw [if_pos hb] at h0
      cases h0
    · rw [if_neg hb] at h0 ⊢
      by_cases hn : (b.getD 0 0).toNat + 256 * (b.getD 1 0).toNat ≠ noughts (b.drop 2)
      · rw [if_pos hn] at h0
        cases h0
      · rw [if_neg hn] at h0 ⊢
        have hn := Classical.not_not.1 hn
        by_cases hqq : ((b.getD 2 0).toNat < 1 ∨ 7 < (b.getD 2 0).toNat ∨ b.length - 5 < (b.getD 3 0).toNat + 256 * (b.getD 4 0).toNat ∨ ¬ blankS (b.drop (5 + ((b.getD 3 0).toNat + 256 * (b.getD 4 0).toNat))))
        · rw [if_pos hqq] at h0
          cases h0
        · rw [if_neg hqq]
          dsimp only
          have hk1 : 1 ≤ (b.getD 2 0).toNat := Nat.not_lt.1 fun h => hqq (.inl h)
          have hk7 : (b.getD 2 0).toNat ≤ 7 := Nat.not_lt.1 fun h => hqq (.inr (.inl h))
          have hlen : (b.getD 3 0).toNat + 256 * (b.getD 4 0).toNat ≤ b.length - 5 := Nat.not_lt.1 fun h => hqq (.inr (.inr (.inl h)))
          have hbl : blankS (b.drop (5 + ((b.getD 3 0).toNat + 256 * (b.getD 4 0).toNat))) := Classical.not_not.1 fun h => hqq (.inr (.inr (.inr h)))
          clear hqq h0 hb
          have hp' := hp
          unfold isPage at hp'
          match b, hp' with
          | b0 :: b1 :: b2 :: b3 :: b4 :: rest, hp' =>
            simp only [List.getD_cons_zero, List.getD_cons_succ, List.drop_succ_cons, List.drop_zero] at hn hk1 hk7 hlen hbl ⊢
            have e5 : (b0 :: b1 :: b2 :: b3 :: b4 :: rest).drop (5 + (b3.toNat + 256 * b4.toNat)) = rest.drop (b3.toNat + 256 * b4.toNat) := by rw [← List.drop_drop]; rfl
            rw [e5] at hbl
            have hL : (b0 :: b1 :: b2 :: b3 :: b4 :: rest).length = rest.length + 5 := by simp
            rw [hL] at hlen hp hp' ⊢
            have htake : (rest.take (b3.toNat + 256 * b4.toNat)).length = b3.toNat + 256 * b4.toNat := by rw [List.length_take]; omega
            refine ⟨hp, hk1, hk7, by rw [htake]; exact hlen, ?_⟩
            have hkind : UInt8.ofNat b2.toNat = b2 := by apply UInt8.toNat.inj; rw [UInt8.toNat_ofNat']; have := b2.toNat_lt; omega
            have htail : tailS (rest.length + 5) b2 (rest.take (b3.toNat + 256 * b4.toNat)) = b2 :: b3 :: b4 :: rest := by
              unfold tailS
              have hr := blank_rep hbl
              rw [List.length_drop] at hr
              have e6 : rest.length + 5 - 5 - (b3.toNat + 256 * b4.toNat) = rest.length - (b3.toNat + 256 * b4.toNat) := by omega
              rw [htake, bytes_two, e6, ← hr, List.take_append_drop]
              rfl
            rw [hkind]
            unfold pageS
            rw [htail, ← hn, bytes_two]
            rfl
  · rw [if_pos hp] at h0
    cases h0
theorem getS_no {b : List UInt8} {r : Nat × List UInt8 × Nat} (h : getS b = r) (h0 : r.2.2 ≠ 0) : r.1 = 0 ∧ r.2.1 = [] := by
  subst h
  unfold getS at h0 ⊢
  split
  · exact ⟨rfl, rfl⟩
  · rename_i h1
    rw [if_neg h1] at h0
    split
    · exact ⟨rfl, rfl⟩
    · rename_i h2
      rw [if_neg h2] at h0
      split
      · exact ⟨rfl, rfl⟩
      · rename_i h3
        rw [if_neg h3] at h0
        split
        · exact ⟨rfl, rfl⟩
        · rename_i h4
          rw [if_neg h4] at h0
          exact absurd rfl h0
theorem getS_code (b : List UInt8) : (getS b).2.2 ≤ 7 ∧ (getS b).1 ≤ 7 := by
  by_cases h : (getS b).2.2 = 0
  · exact ⟨by omega, (getS_ok rfl h).2.2.1⟩
  · refine ⟨?_, by rw [(getS_no rfl h).1]; omega⟩
    unfold getS
    split
    · decide
    · split
      · decide
      · split
        · decide
        · split
          · decide
          · exact Nat.zero_le _
theorem putPageS_ok {s : Int} {kind : UInt8} {body : List UInt8} (h : (putPageS s kind body).2 = 0) : 128 ≤ s ∧ s ≤ 256 ∧ 1 ≤ kind.toNat ∧ kind.toNat ≤ 7 ∧ body.length ≤ s.toNat - 5 ∧ putPageS s kind body = (pageS s.toNat kind body, 0) := by
  unfold putPageS at h ⊢
  split at h
  · cases h
  · rename_i h1
    split at h
    · cases h
    · rename_i h2
      rw [if_neg h1, if_neg h2]
      have hs : 128 ≤ s ∧ s ≤ 256 := Classical.not_not.1 fun hn => h1 (.inl hn)
      exact ⟨hs.1, hs.2, Nat.not_lt.1 fun hn => h1 (.inr (.inl hn)), Nat.not_lt.1 fun hn => h1 (.inr (.inr hn)), Nat.not_lt.1 h2, rfl⟩
theorem putPageS_code (s : Int) (kind : UInt8) (body : List UInt8) : (putPageS s kind body).2 ≤ 3 := by
  unfold putPageS
  split
  · decide
  · split
    · decide
    · exact Nat.zero_le _
theorem putPageS_mk {s : Nat} {kind : UInt8} {body : List UInt8} (hs : isPage s) (hk1 : 1 ≤ kind.toNat) (hk7 : kind.toNat ≤ 7) (hb : body.length ≤ s - 5) : putPageS s kind body = (pageS s kind body, 0) := by
  unfold isPage at hs
  unfold putPageS
  rw [if_neg (by rintro (h | h | h) <;> omega), if_neg (by simp; omega)]
  simp
end Go.Proofs.Ytlioclicopakbaa
