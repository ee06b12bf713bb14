import Derived.Test.YtlcdabmclcfagaaWorks03M
import Derived.Test.YtlcdabmclcfagaaSameKM
import Derived.Test.YtlcdabmclcfagaaMBase
set_option linter.unusedVariables false
set_option linter.unusedSimpArgs false
/- A chip of the call's own beside a row of bytes of the call's own; what is dead. -/
namespace Go.Proofs.Ytlcdabmclcfagaa
open Go.RowKit

structure CK (w W : World) (g k : Nat) (ws : List UInt8) (c : Chp) : Prop where
  pc : ∃ F, PC W F g c ∧ ∀ i, F i → w.heap.size ≤ i ∧ i ≠ k
  bel : Below w.heap.size w W
  row : RowB 5 W k ws
theorem CK.later {w W W' : World} {g k : Nat} {ws : List UInt8} {c : Chp} (h : CK w W g k ws c) (hb : Below W.heap.size W W') : CK w W' g k ws c := by
  obtain ⟨⟨F, h1, h2⟩, h3, h4⟩ := h
  exact ⟨⟨F, h1.below hb, h2⟩, below_then h3 h3.size hb, h4.belowAll hb⟩
theorem CK.of {w W W' : World} {g k : Nat} {ws : List UInt8} {c : Chp} (h : CP w W g c) (hb : Below W.heap.size W W') (hk : W.heap.size ≤ k) (hr : RowB 5 W' k ws) : CK w W' g k ws c := by
  obtain ⟨F, h1, h2, h3⟩ := h
  exact ⟨⟨F, h1.below hb, fun i hi => ⟨h2 i hi, by have := h1.lt i hi; omega⟩⟩, below_then h3 h3.size hb, hr⟩
theorem ck_prog2 {w W W1 : World} {g k : Nat} {ws : List UInt8} {c : Chp} (h : CK w W g k ws c) (hb : Below W.heap.size W W1) (b p : Int) (A : Option Addr) (n d : Nat) (xs : List UInt8) (hn : xs.length = n) (hr : RV W1 A (bv xs)) (hA : ∀ ad, A = some ad → 0 < n → ad.block < w.heap.size ∨ W.heap.size ≤ ad.block) :
    Calls Try.prog 12 #[.pointer (some ⟨g, 0, none⟩), .int .i64 b, .int .i64 p, .slice A n d] W1 fun e w' => e = .returned (.int .i64 ((programS c b p xs).2 : Int)) ∧ CK w w' g k ws (programS c b p xs).1 := by
  have hx := h.later hb
  obtain ⟨⟨F, h1, h2⟩, h3, h4⟩ := h
  have hlt := h1.lt
  obtain ⟨L, h1'⟩ := h1.below hb
  refine (program_pc h1' b p A n d xs hn hr fun ad he h0 hF => ?_).mono ?_
  · rcases hA ad he h0 with h5 | h5
    · have := (h2 _ hF).1
      omega
    · have := hlt _ hF
      omega
  rintro e w' ⟨he, hp, ht⟩
  exact ⟨he, ⟨F, hp, h2⟩, hx.bel.trans (ht.below (fun i hi => (h2 i hi).1) hx.bel.size), hx.row.heap (ht.block k hx.row.lt fun hF => (h2 _ hF).2 rfl)⟩
theorem ck_erase {w W : World} {g k : Nat} {ws : List UInt8} {c : Chp} (h : CK w W g k ws c) (b : Int) :
    Calls Try.prog 16 #[.pointer (some ⟨g, 0, none⟩), .int .i64 b] W fun e w' => e = .returned (.int .i64 ((eraseS c b).2 : Int)) ∧ CK w w' g k ws (eraseS c b).1 := by
  obtain ⟨⟨F, ⟨L, h1⟩, h2⟩, h3, h4⟩ := h
  refine (erase_pc h1 b).mono ?_
  rintro e w' ⟨he, hp, ht⟩
  exact ⟨he, ⟨F, hp, h2⟩, h3.trans (ht.below (fun i hi => (h2 i hi).1) h3.size), h4.heap (ht.block k h4.lt fun hF => (h2 _ hF).2 rfl)⟩
theorem ck_power {w W : World} {g k : Nat} {ws : List UInt8} {c : Chp} (h : CK w W g k ws c) :
    Calls Try.prog 18 #[.pointer (some ⟨g, 0, none⟩)] W fun e w' => ∃ g', e = .returned (.tuple #[.pointer (some ⟨g', 0, none⟩), .int .i64 0]) ∧ CK w w' g' k ws (powerS c) ∧ CK w w' g k ws c := by
  have h0 := h
  obtain ⟨⟨F, ⟨L, h1⟩, h2⟩, h3, h4⟩ := h
  refine (power_pc h1).mono ?_
  rintro e w' ⟨g', he, hp, hb⟩
  exact ⟨g', he, ⟨⟨_, hp, fun i hi => ⟨Nat.le_trans h3.size hi.1, by have := hi.1; have := h4.lt; omega⟩⟩, below_then h3 h3.size hb, h4.belowAll hb⟩, h0.later hb⟩
theorem ck_read {w W : World} {g k : Nat} {ws : List UInt8} {c : Chp} (h : CK w W g k ws c) (b p : Int) :
    Calls Try.prog 13 #[.pointer (some ⟨g, 0, none⟩), .int .i64 b, .int .i64 p] W fun e w' => ∃ v, e = .returned (.tuple #[v, .int .i64 ((readS c b p).2 : Int)]) ∧ OwnB 5 w' W.heap.size v (readS c b p).1 ∧ CK w w' g k ws c := by
  have h0 := h
  obtain ⟨⟨F, ⟨L, h1⟩, h2⟩, h3, h4⟩ := h
  refine (read_pc h1 b p).mono ?_
  rintro e w' ⟨v, he, ho, hb⟩
  exact ⟨v, he, ho, h0.later hb⟩
theorem ck_bytes {w W : World} {g k : Nat} {ws : List UInt8} {c : Chp} (h : CK w W g k ws c) :
    Calls Try.prog 22 #[.pointer (some ⟨g, 0, none⟩)] W fun e w' => ∃ v, e = .returned v ∧ OwnB 5 w' W.heap.size v c.bytes ∧ Below W.heap.size W w' := by
  obtain ⟨⟨F, ⟨L, h1⟩, h2⟩, h3, h4⟩ := h
  refine (bytes_pc h1).mono ?_
  rintro e w' ⟨v, he, ho, hb⟩
  exact ⟨v, he, ho, hb⟩
theorem ck_deeds {w W : World} {g k : Nat} {ws : List UInt8} {c : Chp} (h : CK w W g k ws c) :
    Calls Try.prog 24 #[.pointer (some ⟨g, 0, none⟩)] W fun e w' => e = .returned (.int .i64 c.deeds) ∧ w' = W := by
  obtain ⟨⟨F, ⟨L, h1⟩, h2⟩, h3, h4⟩ := h
  exact deeds_pc h1
theorem CK.ok {w W : World} {g k : Nat} {ws : List UInt8} {c : Chp} (h : CK w W g k ws c) : ChOk c := by
  obtain ⟨⟨F, h1, _⟩, _, _⟩ := h
  exact h1.ok
theorem CP.ok {w W : World} {g : Nat} {c : Chp} (h : CP w W g c) : ChOk c := by
  obtain ⟨F, h1, _⟩ := h
  exact h1.ok
theorem ChOk.pos {c : Chp} (h : ChOk c) : 0 < c.bytes.length ∧ c.bytes.length ≤ 524288 := by
  have h1 := h.n
  have h2 := h.b1
  have h3 : 8 * 512 ≤ c.B * c.N := Nat.mul_le_mul h.b1 h1.1
  rw [h.len]
  omega
/-- A row of the call's own that is not empty. -/
theorem OwnB.row {w : World} {base : Nat} {v : Value} {xs : List UInt8} (h : OwnB 5 w base v xs) (h0 : 0 < xs.length) :
    ∃ g full, v = .slice (some ⟨g, 0, none⟩) xs.length full.length ∧ base ≤ g ∧ RowB 5 w g full ∧ full.take xs.length = xs ∧ full.length ≤ maxLen := by
  rcases h with ⟨_, rfl⟩ | h
  · simp at h0
  · exact h
theorem RowB.rvTake {w : World} {g : Nat} {full xs : List UInt8} (h : RowB 5 w g full) (ht : full.take xs.length = xs) : RV w (some ⟨g, 0, none⟩) (bv xs) := by
  have h1 := h.rv.take xs.length
  rwa [← bv_take, ht] at h1

/-! ### dead -/
theorem programS_dead {c : Chp} (h : c.dead = true) (b p : Int) (ws : List UInt8) : programS c b p ws = (c, 10) := by
  unfold programS
  rw [if_pos h]
theorem eraseS_dead {c : Chp} (h : c.dead = true) (b : Int) : eraseS c b = (c, 10) := by
  unfold eraseS
  rw [if_pos h]
theorem readS_dead {c : Chp} (h : c.dead = true) (b p : Int) : readS c b p = ([], 10) := by
  have : askS c b p = 10 := by unfold askS; rw [if_pos h]
  unfold readS
  rw [this, if_pos (by decide)]
theorem doneS_ten (c : Chp) (b at_ : Nat) (ws : List UInt8) : (doneS c b at_ ws).2 = 10 → (doneS c b at_ ws).1.dead = true := by
  unfold doneS
  dsimp only
  split
  · intro h; cases h
  · split
    · intro h; cases h
    · intro _; rfl
theorem eraseS_ten (c : Chp) (b : Int) : (eraseS c b).2 = 10 → (eraseS c b).1.dead = true := by
  unfold eraseS
  split
  · rename_i h
    exact fun _ => h
  · split
    · intro h; cases h
    · split
      · intro h; cases h
      · exact doneS_ten _ _ _ _
theorem hits_lit255 (w : World) : HitsP ((w.alloc (.cells #[.int .u8 255] 5)).alloc (.cells #[.int .i64 0, .bool false, .slice (some ⟨w.heap.size, 0, none⟩) 1 1] 36)) (fun k => w.heap.size ≤ k) (some ⟨w.heap.size + 1, 0, none⟩) [⟨0, false, [255]⟩] := by
  have hs : (w.alloc (.cells #[.int .u8 255] 5)).heap.size = w.heap.size + 1 := alloc_sz _ _
  have hB := Blk.new (w.alloc (.cells #[.int .u8 255] 5)) 36 #[.int .i64 0, .bool false, .slice (some ⟨w.heap.size, 0, none⟩) 1 1]
  rw [hs] at hB
  have hR := ((RowB.new w 5 [255]).alloc (.cells #[.int .i64 0, .bool false, .slice (some ⟨w.heap.size, 0, none⟩) 1 1] 36)).rv
  intro i h hi
  match i, hi with
  | 0, hi =>
    obtain rfl : (⟨0, false, [255]⟩ : Htt) = h := by simpa using hi
    exact ⟨_, _, 1, rfl, Nat.le_succ _, hB.cell 0, hB.cell 1, hB.cell 2, hR, fun bd hb _ => by injection hb with hb; subst hb; exact Nat.le_refl _, Nat.le_refl _, by decide⟩
  | i + 1, hi => simp at hi
theorem hits_below (w : World) : Below w.heap.size w ((w.alloc (.cells #[.int .u8 255] 5)).alloc (.cells #[.int .i64 0, .bool false, .slice (some ⟨w.heap.size, 0, none⟩) 1 1] 36)) :=
  ((Below.refl w.heap.size w).alloc (Nat.le_refl _) _).alloc (by rw [alloc_sz]; exact Nat.le_succ _) _
/-- The arguments' boxes. -/
structure Boxes (w w0 : World) (B P S Sp : Int) (cs : Array Value) : Prop where
  b0 : Below w.heap.size w w0
  sz : w0.heap.size = w.heap.size + 2
  geo : Blk w0 w.heap.size 28 #[.int .i64 B, .int .i64 P, .int .i64 S, .int .i64 Sp]
  act : Blk w0 (w.heap.size + 1) 49 cs
theorem Boxes.mk' (w : World) (B P S Sp : Int) (cs : Array Value) : Boxes w ((w.alloc (.cells #[.int .i64 B, .int .i64 P, .int .i64 S, .int .i64 Sp] 28)).alloc (.cells cs 49)) B P S Sp cs := by
  have hs : (w.alloc (.cells #[.int .i64 B, .int .i64 P, .int .i64 S, .int .i64 Sp] 28)).heap.size = w.heap.size + 1 := alloc_sz _ _
  have hB := Blk.new (w.alloc (.cells #[.int .i64 B, .int .i64 P, .int .i64 S, .int .i64 Sp] 28)) 49 cs
  rw [hs] at hB
  exact ⟨((Below.refl w.heap.size w).alloc (Nat.le_refl _) _).alloc (by rw [hs]; exact Nat.le_succ _) _, by rw [alloc_sz, hs], (Blk.new w _ _).alloc _, hB⟩
end Go.Proofs.Ytlcdabmclcfagaa

/- NandOthers, plain: what a deed leaves as it was. -/
namespace Go.Proofs.Ytlcdabmclcfagaa
open Go.RowKit

/-- Ahead of one place and behind another bytes are as they were. -/
structure Keeps (old new : List UInt8) (fr to : Nat) : Prop where
  len : new.length = old.length
  le : fr ≤ to
  lt : to ≤ old.length
  pre : new.take fr = old.take fr
  suf : new.drop to = old.drop to
theorem Keeps.refl (l : List UInt8) {fr to : Nat} (h1 : fr ≤ to) (h2 : to ≤ l.length) : Keeps l l fr to := ⟨rfl, h1, h2, rfl, rfl⟩
theorem spl_keeps {l m : List UInt8} {a : Nat} (h : a + m.length ≤ l.length) : Keeps l (spl l a m) a (a + m.length) := by
  have hl : (l.take a).length = a := by rw [List.length_take]; omega
  refine ⟨spl_len h, by omega, h, ?_, ?_⟩
  · unfold spl
    rw [List.append_assoc, List.take_append_of_le_length (by omega), List.take_of_length_le (by omega)]
  · unfold spl
    have h2 : (l.take a ++ m).length = a + m.length := by rw [List.length_append, hl]
    rw [← h2, List.drop_left]
theorem done_keeps {c : Chp} (b : Nat) {a : Nat} {ws : List UInt8} (h : a + ws.length ≤ c.bytes.length) : Keeps c.bytes (doneS c b a ws).1.bytes a (a + ws.length) := by
  have hm : (mixL (strikeS c).1 (seg c.bytes a ws.length) ws).length = ws.length := by
    rw [mixL_len (by rw [seg_len h]), seg_len h]
  have h1 := spl_keeps (l := c.bytes) (m := mixL (strikeS c).1 (seg c.bytes a ws.length) ws) (a := a) (by rw [hm]; exact h)
  rw [hm] at h1
  unfold doneS
  dsimp only
  split
  · exact h1
  · split <;> exact h1
theorem prog_keeps {c : Chp} (h : ChOk c) {b p : Int} (ws : List UInt8) (ht : thereS c b p) : Keeps c.bytes (programS c b p ws).1.bytes (b.toNat * c.N + p.toNat * c.S) (b.toNat * c.N + p.toNat * c.S + c.S) := by
  have ht' := ht
  unfold thereS at ht'
  obtain ⟨e1, e2, e3⟩ := h.page_end (b := b.toNat) (p := p.toNat) (by omega) (by omega)
  rw [e2] at e3
  have hr : Keeps c.bytes c.bytes (b.toNat * c.N + p.toNat * c.S) (b.toNat * c.N + p.toNat * c.S + c.S) := Keeps.refl _ (by omega) e3
  unfold programS
  split
  · exact hr
  · split
    · exact hr
    · rename_i h2
      have hl : ws.length = c.S := by
        rcases Nat.decEq ws.length c.S with h3 | h3
        · exact absurd (.inr h3) h2
        · exact h3
      split
      · exact hr
      · split
        · exact hr
        · have := done_keeps (c := c) b.toNat (a := b.toNat * c.N + p.toNat * c.S) (ws := ws) (by rw [hl]; exact e3)
          rwa [hl] at this
theorem prog_not {c : Chp} {b p : Int} (ws : List UInt8) (ht : ¬ thereS c b p) : (programS c b p ws).1.bytes = c.bytes := by
  unfold programS
  split
  · rfl
  · rw [if_pos (.inl ht)]
theorem erase_keeps {c : Chp} (h : ChOk c) {b : Int} (ht : 0 ≤ b ∧ b < c.B) : Keeps c.bytes (eraseS c b).1.bytes (b.toNat * c.N) (b.toNat * c.N + c.N) := by
  have e3 := h.row_end (i := b.toNat) (by omega)
  have hr : Keeps c.bytes c.bytes (b.toNat * c.N) (b.toNat * c.N + c.N) := Keeps.refl _ (by omega) e3
  unfold eraseS
  split
  · exact hr
  · split
    · exact hr
    · split
      · exact hr
      · have := done_keeps (c := c) b.toNat (a := b.toNat * c.N) (ws := List.replicate c.N 255) (by rw [List.length_replicate]; exact e3)
        rwa [List.length_replicate] at this
theorem erase_not {c : Chp} {b : Int} (ht : ¬ (0 ≤ b ∧ b < c.B)) : (eraseS c b).1.bytes = c.bytes := by
  unfold eraseS
  split
  · rfl
  · rw [if_pos (by unfold thereS; omega)]
end Go.Proofs.Ytlcdabmclcfagaa
