import Derived.Test.YtlcdabmclcfagaaMBase
import Derived.Test.YtlcdabmclcfagaaMRows
set_option linter.unusedVariables false
set_option linter.unusedSimpArgs false
/- Layer 3: a chip in memory, the program's and the document's; what a deed touches. -/
namespace Go.Proofs.Ytlcdabmclcfagaa
open Go.RowKit

/-! ### what a deed touches -/
structure Tch (F : Nat → Prop) (w w' : World) : Prop where
  os : w'.os = w.os
  tape : w'.tape = w.tape
  output : w'.output = w.output
  size : w.heap.size ≤ w'.heap.size
  block : ∀ k, k < w.heap.size → ¬ F k → w'.heap[k]? = w.heap[k]?
theorem Tch.refl (F : Nat → Prop) (w : World) : Tch F w w := ⟨rfl, rfl, rfl, Nat.le_refl _, fun _ _ _ => rfl⟩
theorem Tch.then {F F' : Nat → Prop} {w w1 w2 : World} (h : Tch F w w1) (k : Tch F' w1 w2) (hF : ∀ k, k < w.heap.size → F' k → F k) : Tch F w w2 :=
  ⟨k.os.trans h.os, k.tape.trans h.tape, k.output.trans h.output, Nat.le_trans h.size k.size, fun i hi hn => (k.block i (Nat.lt_of_lt_of_le hi h.size) fun hf => hn (hF i hi hf)).trans (h.block i hi hn)⟩
theorem Tch.of_below {F : Nat → Prop} {w w' : World} (h : Below w.heap.size w w') : Tch F w w' := ⟨h.os, h.tape, h.output, h.size, fun i hi _ => h.block i hi⟩
theorem Tch.of_grown {F : Nat → Prop} {w w' : World} {row : Option Nat} (h : w.grownBy w' row) (hr : ∀ k, row = some k → k < w.heap.size → F k) : Tch F w w' :=
  ⟨h.os, h.tape, h.output, h.size, fun i hi hn => h.block i hi fun e => hn (hr i e.symm hi)⟩
theorem Tch.below {F : Nat → Prop} {B : Nat} {w w' : World} (h : Tch F w w') (hF : ∀ k, F k → B ≤ k) (hB : B ≤ w.heap.size) : Below B w w' :=
  ⟨h.os, h.tape, h.output, h.size, fun i hi => h.block i (Nat.lt_of_lt_of_le hi hB) fun hf => by have := hF i hf; omega⟩
theorem Tch.mono {F F' : Nat → Prop} {w w' : World} (h : Tch F w w') (hF : ∀ k, F k → F' k) : Tch F' w w' := ⟨h.os, h.tape, h.output, h.size, fun i hi hn => h.block i hi fun hf => hn (hF i hf)⟩
theorem RV.tch {F : Nat → Prop} {w w' : World} {A : Option Addr} {cs : List Value} (h : RV w A cs) (ht : Tch F w w') (ho : ∀ ad, A = some ad → 0 < cs.length → ¬ F ad.block) : RV w' A cs :=
  h.keep fun ad hA hn => ht.block _ (h.lt hA hn) (ho ad hA hn)
def grw (F : Nat → Prop) (w w' : World) : Nat → Prop := fun k => F k ∨ (w.heap.size ≤ k ∧ k < w'.heap.size)
def fsh (w w' : World) : Nat → Prop := fun k => w.heap.size ≤ k ∧ k < w'.heap.size

/-! ### what strikes, in memory -/
def hitCells (h : Htt) (v : Value) : List Value := [.int .i64 h.after, .bool h.fails, v]
theorem hit_len (c : Htt) (v : Value) : (hitCells c v).length = 3 := rfl
theorem hit_one (c : Htt) (A : Option Addr) (n d : Nat) : ∀ u ∈ hitCells c (.slice A n d), u.oneCell' = true := by
  intro u hu
  simp only [hitCells, List.mem_cons, List.not_mem_nil, or_false] at hu
  rcases hu with rfl | rfl | rfl <;> rfl
def HitsP (w : World) (ok : Nat → Prop) (A : Option Addr) (l : List Htt) : Prop :=
  ∀ i h, l[i]? = some h → ∃ ad Bv d, A = some ad ∧ ok ad.block ∧ w.cell? (ad.add (i * 3)) = some (.int .i64 h.after) ∧ w.cell? ((ad.add (i * 3)).add 1) = some (.bool h.fails) ∧ w.cell? ((ad.add (i * 3)).add 2) = some (.slice Bv h.mask.length d) ∧
    RV w Bv (bv h.mask) ∧ (∀ bd, Bv = some bd → 0 < h.mask.length → ok bd.block) ∧ h.mask.length ≤ d ∧ d ≤ maxLen
theorem HitsP.nil (w : World) (ok : Nat → Prop) (A : Option Addr) : HitsP w ok A [] := fun i h hi => by simp at hi
theorem HitsP.keep {w w' : World} {ok ok' : Nat → Prop} {A : Option Addr} {l : List Htt} (h : HitsP w ok A l) (hk : ∀ k, ok k → k < w.heap.size → w'.heap[k]? = w.heap[k]?) (ho : ∀ k, ok k → k < w.heap.size → ok' k) : HitsP w' ok' A l := by
  intro i x hi
  obtain ⟨ad, Bv, d, e1, e2, c0, c1, c2, hr, hb, l1, l2⟩ := h i x hi
  have hlt : ad.block < w.heap.size := by
    have := World.block_lt_of_cell? w _ c0
    rwa [block_add] at this
  have hc : ∀ q u, q.block = ad.block → w.cell? q = some u → w'.cell? q = some u := fun q u hq hu => (World.cell?_of_block (by rw [hq]; exact hk _ e2 hlt)).trans hu
  refine ⟨ad, Bv, d, e1, ho _ e2 hlt, hc _ _ (by rw [block_add]) c0, hc _ _ (by rw [block_add, block_add]) c1, hc _ _ (by rw [block_add, block_add]) c2, ?_, ?_, l1, l2⟩
  · exact hr.keep fun bd hB hn => hk _ (hb bd hB (by rwa [bv_length] at hn)) (hr.lt hB hn)
  · intro bd hB hn
    exact ho _ (hb bd hB hn) (hr.lt hB (by rwa [bv_length]))
theorem HitsP.tail {w : World} {ok : Nat → Prop} {ad : Addr} {h : Htt} {r : List Htt} (hh : HitsP w ok (some ad) (h :: r)) : HitsP w ok (some (ad.add 3)) r := by
  intro i x hi
  obtain ⟨ad', Bv, d, e1, e2, c0, c1, c2, hr, hb, l1, l2⟩ := hh (i + 1) x (by simpa using hi)
  injection e1 with e1
  subst e1
  have ha : ad.add ((i + 1) * 3) = (ad.add 3).add (i * 3) := by
    rw [add_add]
    congr 1
    omega
  rw [ha] at c0 c1 c2
  exact ⟨_, Bv, d, rfl, by rw [block_add]; exact e2, c0, c1, c2, hr, hb, l1, l2⟩
theorem HitsP.addr {w : World} {ok : Nat → Prop} {A B : Option Addr} {l : List Htt} (h : HitsP w ok A l) (hAB : l ≠ [] → A = B) : HitsP w ok B l := by
  cases l with
  | nil => exact HitsP.nil _ _ _
  | cons x l => rw [← hAB (by simp)]; exact h

/-! ### the program's chip -/
structure Lay where
  kb : Nat
  kd : Nat
  cb : Nat
  cd : Nat
  ch : Nat
  kr : Nat → Nat
  tl : Nat → List UInt8
  td : List Value
  A : Option Addr
def Lay.far (L : Lay) (a B k : Nat) : Prop := k ≠ a ∧ k ≠ L.kd ∧ ∀ i, i < B → k ≠ L.kr i
def chipCells (L : Lay) (c : Chp) : Array Value :=
  #[.int .i64 (c.B : Int), .int .i64 (c.P : Int), .int .i64 (c.S : Int), .int .i64 (c.Sp : Int), .slice (some ⟨L.kb, 0, none⟩) c.B L.cb, .slice (some ⟨L.kd, 0, none⟩) c.B L.cd, .slice L.A c.hits.length L.ch, .int .i64 c.since, .bool c.dead, .int .i64 c.deeds]
structure PCx (w : World) (F : Nat → Prop) (a : Nat) (L : Lay) (c : Chp) : Prop where
  ok : ChOk c
  blk : Blk w a 65 (chipCells L c)
  kb : ∀ i, i < c.B → w.cell? ⟨L.kb, i, none⟩ = some (.slice (some ⟨L.kr i, 0, none⟩) c.N (c.N + (L.tl i).length))
  kd : Blk w L.kd 4 (c.bad.map Value.bool ++ L.td).toArray
  row : ∀ i, i < c.B → RowB 5 w (L.kr i) (c.row i ++ L.tl i)
  hits : HitsP w (fun k => F k ∧ L.far a c.B k) L.A c.hits
  cb : c.B ≤ L.cb ∧ L.cb ≤ maxLen
  cd : c.B + L.td.length = L.cd ∧ L.cd ≤ maxLen
  ch : c.hits.length ≤ L.ch ∧ L.ch ≤ maxLen
  ct : ∀ i, i < c.B → c.N + (L.tl i).length ≤ maxLen
  f1 : a ≠ L.kd
  f2 : ∀ i, i < c.B → L.kr i ≠ a ∧ L.kr i ≠ L.kd
  f3 : ∀ i j, i < c.B → j < c.B → L.kr i = L.kr j → i = j
  f4 : L.far a c.B L.kb
  i1 : F a ∧ F L.kd ∧ F L.kb
  i2 : ∀ i, i < c.B → F (L.kr i)
  lt : ∀ k, F k → k < w.heap.size
section
variable {w w' : World} {F F' : Nat → Prop} {a : Nat} {L : Lay} {c : Chp}
theorem PCx.keep (h : PCx w F a L c) (hk : ∀ k, F k → w'.heap[k]? = w.heap[k]?) (hs : w.heap.size ≤ w'.heap.size) : PCx w' F a L c := by
  obtain ⟨ok, blk, kb, kd, row, hits, cb, cd, ch, ct, f1, f2, f3, f4, i1, i2, lt⟩ := h
  exact ⟨ok, blk.heap (hk _ i1.1), fun i hi => (World.cell?_of_block (hk _ i1.2.2)).trans (kb i hi), kd.heap (hk _ i1.2.1), fun i hi => (row i hi).heap (hk _ (i2 i hi)), hits.keep (fun k hk' _ => hk k hk'.1) (fun k h _ => h), cb, cd, ch, ct, f1, f2, f3, f4, i1, i2, fun k hk' => Nat.lt_of_lt_of_le (lt k hk') hs⟩
theorem PCx.below (h : PCx w F a L c) (hb : Below w.heap.size w w') : PCx w' F a L c := h.keep (fun k hk => hb.block k (h.lt k hk)) hb.size
theorem PCx.tch {G : Nat → Prop} (h : PCx w F a L c) (ht : Tch G w w') (hd : ∀ k, F k → ¬ G k) : PCx w' F a L c := h.keep (fun k hk => ht.block k (h.lt k hk) (hd k hk)) ht.size
theorem PCx.mono (h : PCx w F a L c) (hF : ∀ k, F k → F' k) (hlt : ∀ k, F' k → k < w.heap.size) : PCx w F' a L c := by
  obtain ⟨ok, blk, kb, kd, row, hits, cb, cd, ch, ct, f1, f2, f3, f4, i1, i2, lt⟩ := h
  exact ⟨ok, blk, kb, kd, row, hits.keep (fun _ _ _ => rfl) (fun k h _ => ⟨hF k h.1, h.2⟩), cb, cd, ch, ct, f1, f2, f3, f4, ⟨hF _ i1.1, hF _ i1.2.1, hF _ i1.2.2⟩, fun i hi => hF _ (i2 i hi), hlt⟩
/-- The chip's own words become others. -/
theorem PCx.strct (h : PCx w F a L c) (hs : w.heap.size ≤ w'.heap.size) (hk : ∀ k, k < w.heap.size → k ≠ a → w'.heap[k]? = w.heap[k]?) (hits : List Htt) (since deeds : Int) (dead : Bool) (A : Option Addr) (ch : Nat)
    (hb : Blk w' a 65 (chipCells {L with A := A, ch := ch} {c with hits := hits, since := since, dead := dead, deeds := deeds})) (hh : HitsP w' (fun k => F k ∧ L.far a c.B k) A hits) (hc : hits.length ≤ ch ∧ ch ≤ maxLen) :
    PCx w' F a {L with A := A, ch := ch} {c with hits := hits, since := since, dead := dead, deeds := deeds} := by
  obtain ⟨ok, blk, kb, kd, row, _, cb, cd, _, ct, f1, f2, f3, f4, i1, i2, lt⟩ := h
  exact ⟨⟨ok.b1, ok.b2, ok.p1, ok.p2, ok.s1, ok.s2, ok.sp, ok.len, ok.bads⟩, hb, fun i hi => (World.cell?_of_block (hk _ (lt _ i1.2.2) f4.1)).trans (kb i hi), kd.heap (hk _ (lt _ i1.2.1) (Ne.symm f1)), fun i hi => (row i hi).heap (hk _ (lt _ (i2 i hi)) (f2 i hi).1), hh, cb, cd, hc, ct, f1, f2, f3, f4, i1, i2, fun k hk' => Nat.lt_of_lt_of_le (lt k hk') hs⟩
/-- Bytes of a block become others. -/
theorem PCx.rowset (h : PCx w F a L c) (hs : w.heap.size ≤ w'.heap.size) {b off : Nat} {m : List UInt8} (hb : b < c.B) (ho : off + m.length ≤ c.N) (hk : ∀ k, k < w.heap.size → k ≠ L.kr b → w'.heap[k]? = w.heap[k]?)
    (hr : RowB 5 w' (L.kr b) (spl (c.row b) off m ++ L.tl b)) : PCx w' F a L {c with bytes := spl c.bytes (b * c.N + off) m} := by
  obtain ⟨ok, blk, kb, kd, row, hits, cb, cd, ch, ct, f1, f2, f3, f4, i1, i2, lt⟩ := h
  refine ⟨⟨ok.b1, ok.b2, ok.p1, ok.p2, ok.s1, ok.s2, ok.sp, ?_, ok.bads⟩, blk.heap (hk _ (lt _ i1.1) (Ne.symm (f2 b hb).1)), fun i hi => (World.cell?_of_block (hk _ (lt _ i1.2.2) (f4.2.2 b hb))).trans (kb i hi), kd.heap (hk _ (lt _ i1.2.1) (Ne.symm (f2 b hb).2)), fun i hi => ?_, hits.keep (fun k hk' hlt => hk k hlt (hk'.2.2.2 b hb)) (fun k h _ => h), cb, cd, ch, ct, f1, f2, f3, f4, i1, i2, fun k hk' => Nat.lt_of_lt_of_le (lt k hk') hs⟩
  · have e1 := ok.row_end hb
    show (spl c.bytes (b * c.N + off) m).length = c.B * c.N
    rw [spl_len (by omega), ok.len]
  · rw [row_spl ok hb ho hi]
    by_cases hib : i = b
    · rw [if_pos hib, hib]
      exact hr
    · rw [if_neg hib]
      exact (row i hi).heap (hk _ (lt _ (i2 i hi)) fun e => hib (f3 i b hi hb e))
/-- A block becomes bad. -/
theorem PCx.badset (h : PCx w F a L c) (hs : w.heap.size ≤ w'.heap.size) {b : Nat} (hb : b < c.B) (hk : ∀ k, k < w.heap.size → k ≠ L.kd → w'.heap[k]? = w.heap[k]?)
    (hr : Blk w' L.kd 4 ((c.bad.set b true).map Value.bool ++ L.td).toArray) : PCx w' F a L {c with bad := c.bad.set b true} := by
  obtain ⟨ok, blk, kb, kd, row, hits, cb, cd, ch, ct, f1, f2, f3, f4, i1, i2, lt⟩ := h
  exact ⟨⟨ok.b1, ok.b2, ok.p1, ok.p2, ok.s1, ok.s2, ok.sp, ok.len, by show (c.bad.set b true).length = c.B; rw [List.length_set, ok.bads]⟩, blk.heap (hk _ (lt _ i1.1) f1), fun i hi => (World.cell?_of_block (hk _ (lt _ i1.2.2) f4.2.1)).trans (kb i hi), hr, fun i hi => (row i hi).heap (hk _ (lt _ (i2 i hi)) (f2 i hi).2), hits.keep (fun k hk' hlt => hk k hlt hk'.2.2.1) (fun k h _ => h), cb, cd, ch, ct, f1, f2, f3, f4, i1, i2, fun k hk' => Nat.lt_of_lt_of_le (lt k hk') hs⟩
/-- The chip's words, cell by cell. -/
theorem PCx.cells (h : PCx w F a L c) : w.cell? ⟨a, 0, none⟩ = some (.int .i64 (c.B : Int)) ∧ w.cell? ⟨a, 1, none⟩ = some (.int .i64 (c.P : Int)) ∧ w.cell? ⟨a, 2, none⟩ = some (.int .i64 (c.S : Int)) ∧ w.cell? ⟨a, 3, none⟩ = some (.int .i64 (c.Sp : Int)) ∧
    w.cell? ⟨a, 4, none⟩ = some (.slice (some ⟨L.kb, 0, none⟩) c.B L.cb) ∧ w.cell? ⟨a, 5, none⟩ = some (.slice (some ⟨L.kd, 0, none⟩) c.B L.cd) ∧ w.cell? ⟨a, 6, none⟩ = some (.slice L.A c.hits.length L.ch) ∧ w.cell? ⟨a, 7, none⟩ = some (.int .i64 c.since) ∧ w.cell? ⟨a, 8, none⟩ = some (.bool c.dead) ∧ w.cell? ⟨a, 9, none⟩ = some (.int .i64 c.deeds) := by
  have hc := h.blk.cell
  exact ⟨hc 0, hc 1, hc 2, hc 3, hc 4, hc 5, hc 6, hc 7, hc 8, hc 9⟩
theorem PCx.badAt (h : PCx w F a L c) {b : Nat} (hb : b < c.B) : ∃ x, c.bad[b]? = some x ∧ w.cell? ⟨L.kd, b, none⟩ = some (.bool x) := by
  have hl := h.ok.bads
  obtain ⟨x, hx⟩ : ∃ x, c.bad[b]? = some x := ⟨_, List.getElem?_eq_getElem (by omega)⟩
  refine ⟨x, hx, ?_⟩
  rw [h.kd.cell b]
  simp [List.getElem?_append_left (show b < (c.bad.map Value.bool).length by rw [List.length_map]; omega), hx]
end
/-- The program's chip. -/
def PC (w : World) (F : Nat → Prop) (a : Nat) (c : Chp) : Prop := ∃ L, PCx w F a L c
theorem PC.below {w w' : World} {F : Nat → Prop} {a : Nat} {c : Chp} (h : PC w F a c) (hb : Below w.heap.size w w') : PC w' F a c := by
  obtain ⟨L, h⟩ := h
  exact ⟨L, h.below hb⟩
theorem PC.tch {w w' : World} {F G : Nat → Prop} {a : Nat} {c : Chp} (h : PC w F a c) (ht : Tch G w w') (hd : ∀ k, F k → ¬ G k) : PC w' F a c := by
  obtain ⟨L, h⟩ := h
  exact ⟨L, h.tch ht hd⟩
theorem PC.lt {w : World} {F : Nat → Prop} {a : Nat} {c : Chp} (h : PC w F a c) : ∀ k, F k → k < w.heap.size := by
  obtain ⟨L, h⟩ := h
  exact h.lt
theorem PC.ok {w : World} {F : Nat → Prop} {a : Nat} {c : Chp} (h : PC w F a c) : ChOk c := by
  obtain ⟨L, h⟩ := h
  exact h.ok

/-! ### the document's chip -/
structure RLay where
  kb : Nat
  kd : Nat
  cd : Nat
  ch : Nat
  tb : List UInt8
  td : List Value
  A : Option Addr
def RLay.far (L : RLay) (r k : Nat) : Prop := k ≠ r ∧ k ≠ L.kb ∧ k ≠ L.kd
def refCells (L : RLay) (c : Chp) : Array Value :=
  #[.int .i64 (c.B : Int), .int .i64 (c.P : Int), .int .i64 (c.S : Int), .int .i64 (c.Sp : Int), .slice (some ⟨L.kb, 0, none⟩) (c.B * c.N) (c.B * c.N + L.tb.length), .slice (some ⟨L.kd, 0, none⟩) c.B L.cd, .slice L.A c.hits.length L.ch, .int .i64 c.since, .bool c.dead, .int .i64 c.deeds]
structure RCx (w : World) (F : Nat → Prop) (r : Nat) (L : RLay) (c : Chp) : Prop where
  ok : ChOk c
  blk : Blk w r 56 (refCells L c)
  kb : RowB 5 w L.kb (c.bytes ++ L.tb)
  kd : Blk w L.kd 4 (c.bad.map Value.bool ++ L.td).toArray
  hits : HitsP w (fun k => F k ∧ L.far r k) L.A c.hits
  cb : c.B * c.N + L.tb.length ≤ maxLen
  cd : c.B + L.td.length = L.cd ∧ L.cd ≤ maxLen
  ch : c.hits.length ≤ L.ch ∧ L.ch ≤ maxLen
  f1 : r ≠ L.kb ∧ r ≠ L.kd ∧ L.kb ≠ L.kd
  i1 : F r ∧ F L.kb ∧ F L.kd
  lt : ∀ k, F k → k < w.heap.size
section
variable {w w' : World} {F F' : Nat → Prop} {r : Nat} {L : RLay} {c : Chp}
theorem RCx.keep (h : RCx w F r L c) (hk : ∀ k, F k → w'.heap[k]? = w.heap[k]?) (hs : w.heap.size ≤ w'.heap.size) : RCx w' F r L c := by
  obtain ⟨ok, blk, kb, kd, hits, cb, cd, ch, f1, i1, lt⟩ := h
  exact ⟨ok, blk.heap (hk _ i1.1), kb.heap (hk _ i1.2.1), kd.heap (hk _ i1.2.2), hits.keep (fun k hk' _ => hk k hk'.1) (fun k h _ => h), cb, cd, ch, f1, i1, fun k hk' => Nat.lt_of_lt_of_le (lt k hk') hs⟩
theorem RCx.below (h : RCx w F r L c) (hb : Below w.heap.size w w') : RCx w' F r L c := h.keep (fun k hk => hb.block k (h.lt k hk)) hb.size
theorem RCx.tch {G : Nat → Prop} (h : RCx w F r L c) (ht : Tch G w w') (hd : ∀ k, F k → ¬ G k) : RCx w' F r L c := h.keep (fun k hk => ht.block k (h.lt k hk) (hd k hk)) ht.size
theorem RCx.mono (h : RCx w F r L c) (hF : ∀ k, F k → F' k) (hlt : ∀ k, F' k → k < w.heap.size) : RCx w F' r L c := by
  obtain ⟨ok, blk, kb, kd, hits, cb, cd, ch, f1, i1, lt⟩ := h
  exact ⟨ok, blk, kb, kd, hits.keep (fun _ _ _ => rfl) (fun k h _ => ⟨hF k h.1, h.2⟩), cb, cd, ch, f1, ⟨hF _ i1.1, hF _ i1.2.1, hF _ i1.2.2⟩, hlt⟩
theorem RCx.strct (h : RCx w F r L c) (hs : w.heap.size ≤ w'.heap.size) (hk : ∀ k, k < w.heap.size → k ≠ r → w'.heap[k]? = w.heap[k]?) (hits : List Htt) (since deeds : Int) (dead : Bool) (A : Option Addr) (ch : Nat)
    (hb : Blk w' r 56 (refCells {L with A := A, ch := ch} {c with hits := hits, since := since, dead := dead, deeds := deeds})) (hh : HitsP w' (fun k => F k ∧ L.far r k) A hits) (hc : hits.length ≤ ch ∧ ch ≤ maxLen) :
    RCx w' F r {L with A := A, ch := ch} {c with hits := hits, since := since, dead := dead, deeds := deeds} := by
  obtain ⟨ok, blk, kb, kd, _, cb, cd, _, f1, i1, lt⟩ := h
  exact ⟨⟨ok.b1, ok.b2, ok.p1, ok.p2, ok.s1, ok.s2, ok.sp, ok.len, ok.bads⟩, hb, kb.heap (hk _ (lt _ i1.2.1) (Ne.symm f1.1)), kd.heap (hk _ (lt _ i1.2.2) (Ne.symm f1.2.1)), hh, cb, cd, hc, f1, i1, fun k hk' => Nat.lt_of_lt_of_le (lt k hk') hs⟩
theorem RCx.bytset (h : RCx w F r L c) (hs : w.heap.size ≤ w'.heap.size) {bs : List UInt8} (hl : bs.length = c.bytes.length) (hk : ∀ k, k < w.heap.size → k ≠ L.kb → w'.heap[k]? = w.heap[k]?)
    (hr : RowB 5 w' L.kb (bs ++ L.tb)) : RCx w' F r L {c with bytes := bs} := by
  obtain ⟨ok, blk, kb, kd, hits, cb, cd, ch, f1, i1, lt⟩ := h
  exact ⟨⟨ok.b1, ok.b2, ok.p1, ok.p2, ok.s1, ok.s2, ok.sp, by show bs.length = c.B * c.N; rw [hl, ok.len], ok.bads⟩, blk.heap (hk _ (lt _ i1.1) f1.1), hr, kd.heap (hk _ (lt _ i1.2.2) (Ne.symm f1.2.2)), hits.keep (fun k hk' hlt => hk k hlt hk'.2.2.1) (fun k h _ => h), cb, cd, ch, f1, i1, fun k hk' => Nat.lt_of_lt_of_le (lt k hk') hs⟩
theorem RCx.badset (h : RCx w F r L c) (hs : w.heap.size ≤ w'.heap.size) {b : Nat} (hb : b < c.B) (hk : ∀ k, k < w.heap.size → k ≠ L.kd → w'.heap[k]? = w.heap[k]?)
    (hr : Blk w' L.kd 4 ((c.bad.set b true).map Value.bool ++ L.td).toArray) : RCx w' F r L {c with bad := c.bad.set b true} := by
  obtain ⟨ok, blk, kb, kd, hits, cb, cd, ch, f1, i1, lt⟩ := h
  exact ⟨⟨ok.b1, ok.b2, ok.p1, ok.p2, ok.s1, ok.s2, ok.sp, ok.len, by show (c.bad.set b true).length = c.B; rw [List.length_set, ok.bads]⟩, blk.heap (hk _ (lt _ i1.1) f1.2.1), kb.heap (hk _ (lt _ i1.2.1) f1.2.2), hr, hits.keep (fun k hk' hlt => hk k hlt hk'.2.2.2) (fun k h _ => h), cb, cd, ch, f1, i1, fun k hk' => Nat.lt_of_lt_of_le (lt k hk') hs⟩
theorem RCx.cells (h : RCx w F r L c) : w.cell? ⟨r, 0, none⟩ = some (.int .i64 (c.B : Int)) ∧ w.cell? ⟨r, 1, none⟩ = some (.int .i64 (c.P : Int)) ∧ w.cell? ⟨r, 2, none⟩ = some (.int .i64 (c.S : Int)) ∧ w.cell? ⟨r, 3, none⟩ = some (.int .i64 (c.Sp : Int)) ∧
    w.cell? ⟨r, 4, none⟩ = some (.slice (some ⟨L.kb, 0, none⟩) (c.B * c.N) (c.B * c.N + L.tb.length)) ∧ w.cell? ⟨r, 5, none⟩ = some (.slice (some ⟨L.kd, 0, none⟩) c.B L.cd) ∧ w.cell? ⟨r, 6, none⟩ = some (.slice L.A c.hits.length L.ch) ∧ w.cell? ⟨r, 7, none⟩ = some (.int .i64 c.since) ∧ w.cell? ⟨r, 8, none⟩ = some (.bool c.dead) ∧ w.cell? ⟨r, 9, none⟩ = some (.int .i64 c.deeds) := by
  have hc := h.blk.cell
  exact ⟨hc 0, hc 1, hc 2, hc 3, hc 4, hc 5, hc 6, hc 7, hc 8, hc 9⟩
theorem RCx.badAt (h : RCx w F r L c) {b : Nat} (hb : b < c.B) : ∃ x, c.bad[b]? = some x ∧ w.cell? ⟨L.kd, b, none⟩ = some (.bool x) := by
  have hl := h.ok.bads
  obtain ⟨x, hx⟩ : ∃ x, c.bad[b]? = some x := ⟨_, List.getElem?_eq_getElem (by omega)⟩
  refine ⟨x, hx, ?_⟩
  rw [h.kd.cell b]
  simp [List.getElem?_append_left (show b < (c.bad.map Value.bool).length by rw [List.length_map]; omega), hx]
end
/-- The document's chip. -/
def RC (w : World) (F : Nat → Prop) (r : Nat) (c : Chp) : Prop := ∃ L, RCx w F r L c
theorem RC.below {w w' : World} {F : Nat → Prop} {r : Nat} {c : Chp} (h : RC w F r c) (hb : Below w.heap.size w w') : RC w' F r c := by
  obtain ⟨L, h⟩ := h
  exact ⟨L, h.below hb⟩
theorem RC.tch {w w' : World} {F G : Nat → Prop} {r : Nat} {c : Chp} (h : RC w F r c) (ht : Tch G w w') (hd : ∀ k, F k → ¬ G k) : RC w' F r c := by
  obtain ⟨L, h⟩ := h
  exact ⟨L, h.tch ht hd⟩
theorem RC.lt {w : World} {F : Nat → Prop} {r : Nat} {c : Chp} (h : RC w F r c) : ∀ k, F k → k < w.heap.size := by
  obtain ⟨L, h⟩ := h
  exact h.lt
theorem RC.ok {w : World} {F : Nat → Prop} {r : Nat} {c : Chp} (h : RC w F r c) : ChOk c := by
  obtain ⟨L, h⟩ := h
  exact h.ok
end Go.Proofs.Ytlcdabmclcfagaa
