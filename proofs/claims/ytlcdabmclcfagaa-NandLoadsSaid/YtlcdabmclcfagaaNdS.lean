/- Layer 3, plain: a chip. -/
import Derived.Test.YtlcdabmclcfagaaMem
set_option linter.unusedVariables false
set_option linter.unusedSimpArgs false
namespace Go.Proofs.Ytlcdabmclcfagaa
open Go.RowKit

/-- What strikes. -/
structure Htt where
  after : Int
  fails : Bool
  mask : List UInt8
/-- A chip: its geometry, its bytes (block by block), which blocks are bad, what strikes. -/
structure Chp where
  B : Nat
  P : Nat
  S : Nat
  Sp : Nat
  bytes : List UInt8
  bad : List Bool
  hits : List Htt
  since : Int
  dead : Bool
  deeds : Int
def Chp.N (c : Chp) : Nat := c.P * c.S
def Chp.row (c : Chp) (i : Nat) : List UInt8 := (c.bytes.drop (i * c.N)).take c.N
structure ChOk (c : Chp) : Prop where
  b1 : 8 ≤ c.B
  b2 : c.B ≤ 64
  p1 : 4 ≤ c.P
  p2 : c.P ≤ 32
  s1 : 128 ≤ c.S
  s2 : c.S ≤ 256
  sp : c.Sp ≤ 4
  len : c.bytes.length = c.B * c.N
  bads : c.bad.length = c.B
theorem ChOk.n {c : Chp} (h : ChOk c) : 512 ≤ c.N ∧ c.N ≤ 8192 ∧ c.B * c.N ≤ 524288 := by
  have h1 : 4 * 128 ≤ c.P * c.S := Nat.mul_le_mul h.p1 h.s1
  have h2 : c.P * c.S ≤ 32 * 256 := Nat.mul_le_mul h.p2 h.s2
  have h3 : c.B * c.N ≤ 64 * 8192 := Nat.mul_le_mul h.b2 (by unfold Chp.N; omega)
  exact ⟨h1, h2, h3⟩
theorem ChOk.row_end {c : Chp} (h : ChOk c) {i : Nat} (hi : i < c.B) : i * c.N + c.N ≤ c.bytes.length := by
  have h1 : (i + 1) * c.N ≤ c.B * c.N := Nat.mul_le_mul_right _ hi
  rw [h.len]
  rw [Nat.succ_mul] at h1
  exact h1
theorem ChOk.row_len {c : Chp} (h : ChOk c) {i : Nat} (hi : i < c.B) : (c.row i).length = c.N := by
  have := h.row_end hi
  unfold Chp.row
  rw [List.length_take, List.length_drop]
  omega
theorem ChOk.page_end {c : Chp} (h : ChOk c) {b p : Nat} (hb : b < c.B) (hp : p < c.P) : p * c.S + c.S ≤ c.N ∧ (b * c.P + p) * c.S = b * c.N + p * c.S ∧ (b * c.P + p) * c.S + c.S ≤ c.bytes.length := by
  have h1 : (p + 1) * c.S ≤ c.P * c.S := Nat.mul_le_mul_right _ hp
  rw [Nat.succ_mul] at h1
  have h2 : (b * c.P + p) * c.S = b * c.N + p * c.S := by unfold Chp.N; rw [Nat.add_mul, Nat.mul_assoc]
  have h3 := h.row_end hb
  have h4 : p * c.S + c.S ≤ c.N := h1
  exact ⟨h4, h2, by omega⟩

/-! ### some of the bytes become others -/
def spl (l : List UInt8) (at_ : Nat) (m : List UInt8) : List UInt8 := l.take at_ ++ m ++ l.drop (at_ + m.length)
def seg (l : List UInt8) (at_ n : Nat) : List UInt8 := (l.drop at_).take n
theorem seg_len {l : List UInt8} {a n : Nat} (h : a + n ≤ l.length) : (seg l a n).length = n := by
  unfold seg
  rw [List.length_take, List.length_drop]
  omega
theorem seg_get {l : List UInt8} {a n i : Nat} (hi : i < n) : (seg l a n)[i]? = l[a + i]? := by
  unfold seg
  rw [List.getElem?_take, if_pos hi, List.getElem?_drop]
theorem spl_len {l m : List UInt8} {a : Nat} (h : a + m.length ≤ l.length) : (spl l a m).length = l.length := by
  unfold spl
  simp only [List.length_append, List.length_take, List.length_drop]
  omega
theorem spl_get {l m : List UInt8} {a : Nat} (h : a + m.length ≤ l.length) (i : Nat) : (spl l a m)[i]? = if a ≤ i ∧ i < a + m.length then m[i - a]? else l[i]? := by
  unfold spl
  rw [List.append_assoc]
  have hta : (l.take a).length = a := by rw [List.length_take]; omega
  by_cases h1 : i < a
  · rw [List.getElem?_append_left (by omega), List.getElem?_take, if_pos h1, if_neg (by omega)]
  · rw [List.getElem?_append_right (by omega), hta]
    by_cases h2 : i < a + m.length
    · rw [List.getElem?_append_left (by omega), if_pos ⟨by omega, h2⟩]
    · rw [List.getElem?_append_right (by omega), if_neg (by omega), List.getElem?_drop]
      congr 1
      omega
theorem spl_nil (l : List UInt8) (a : Nat) : spl l a [] = l := by
  unfold spl
  simp
/-- A row of bytes of which a part becomes others. -/
theorem row_spl {c : Chp} (h : ChOk c) {b off i : Nat} {m : List UInt8} (hb : b < c.B) (ho : off + m.length ≤ c.N) (hi : i < c.B) :
    Chp.row {c with bytes := spl c.bytes (b * c.N + off) m} i = if i = b then spl (c.row b) off m else c.row i := by
  have e1 := h.row_end hb
  have e2 := h.row_end hi
  have hl := spl_len (l := c.bytes) (m := m) (a := b * c.N + off) (by omega)
  have hrl := h.row_len hb
  have hN : ({c with bytes := spl c.bytes (b * c.N + off) m} : Chp).N = c.N := rfl
  apply List.ext_getElem?
  intro j
  unfold Chp.row
  rw [hN]
  dsimp only
  by_cases hj : j < c.N
  · rw [List.getElem?_take, if_pos hj, List.getElem?_drop, spl_get (by omega)]
    by_cases hib : i = b
    · subst hib
      rw [if_pos rfl]
      have hrow : ∀ k, k < c.N → (c.row i)[k]? = c.bytes[i * c.N + k]? := fun k hk => by
        unfold Chp.row
        rw [List.getElem?_take, if_pos hk, List.getElem?_drop]
      rw [show (List.take c.N (List.drop (i * c.N) c.bytes)) = c.row i from rfl, spl_get (by omega)]
      by_cases hin : off ≤ j ∧ j < off + m.length
      · rw [if_pos (by omega), if_pos hin]
        congr 1
        omega
      · rw [if_neg (by omega), if_neg hin, hrow j hj]
    · rw [if_neg hib]
      have hmul : i * c.N + c.N ≤ b * c.N ∨ b * c.N + c.N ≤ i * c.N := by
        rcases Nat.lt_or_ge i b with h1 | h1
        · left
          have := Nat.mul_le_mul_right c.N h1
          rw [Nat.succ_mul] at this
          exact this
        · right
          have := Nat.mul_le_mul_right c.N (show b + 1 ≤ i by omega)
          rw [Nat.succ_mul] at this
          exact this
      rw [if_neg (by omega), List.getElem?_take, if_pos hj, List.getElem?_drop]
  · rw [List.getElem?_take, if_neg hj]
    by_cases hib : i = b
    · rw [if_pos hib]
      have : (spl (c.row b) off m).length = c.N := by rw [spl_len (by omega), hrl]
      rw [show (List.take c.N (List.drop (b * c.N) c.bytes)) = c.row b from rfl, List.getElem?_eq_none (by omega)]
    · rw [if_neg hib, List.getElem?_take, if_neg hj]

/-! ### what a deed leaves -/
def maskAt (h : Option Htt) (i : Nat) : UInt8 := match h with
  | none => 255
  | some h => match h.mask[i % h.mask.length]? with
    | some m => m
    | none => 0
def mixB (m o w : UInt8) : UInt8 := (o &&& ~~~m) ||| (w &&& m)
def mixGo (h : Option Htt) : Nat → List UInt8 → List UInt8 → List UInt8
  | i, o :: os, w :: ws => mixB (maskAt h i) o w :: mixGo h (i + 1) os ws
  | _, _, _ => []
def mixL (h : Option Htt) (os ws : List UInt8) : List UInt8 := mixGo h 0 os ws
theorem mixGo_get (h : Option Htt) : ∀ (os ws : List UInt8) (i j : Nat) (o w : UInt8), os[j]? = some o → ws[j]? = some w → (mixGo h i os ws)[j]? = some (mixB (maskAt h (i + j)) o w)
  | [], ws, i, j, o, w, h1, h2 => by simp at h1
  | o' :: os, [], i, j, o, w, h1, h2 => by simp at h2
  | o' :: os, w' :: ws, i, 0, o, w, h1, h2 => by
    simp at h1 h2
    rw [mixGo, h1, h2]
    rfl
  | o' :: os, w' :: ws, i, j + 1, o, w, h1, h2 => by
    simp at h1 h2
    rw [mixGo]
    have := mixGo_get h os ws (i + 1) j o w h1 h2
    rw [show i + 1 + j = i + (j + 1) by omega] at this
    simpa using this
theorem mixGo_len (h : Option Htt) : ∀ (os ws : List UInt8) (i : Nat), os.length = ws.length → (mixGo h i os ws).length = os.length
  | [], ws, i, hl => by
    simp [mixGo]
  | o :: os, [], i, hl => by simp at hl
  | o :: os, w :: ws, i, hl => by
    rw [mixGo, List.length_cons, List.length_cons, mixGo_len h os ws (i + 1) (by simpa using hl)]
theorem mixL_len {h : Option Htt} {os ws : List UInt8} (hl : os.length = ws.length) : (mixL h os ws).length = os.length := mixGo_len h os ws 0 hl
theorem mixL_get {h : Option Htt} {os ws : List UInt8} {j : Nat} {o w : UInt8} (h1 : os[j]? = some o) (h2 : ws[j]? = some w) : (mixL h os ws)[j]? = some (mixB (maskAt h j) o w) := by
  have := mixGo_get h os ws 0 j o w h1 h2
  rwa [Nat.zero_add] at this
def strikeS (c : Chp) : Option Htt × Chp :=
  match c.hits with
  | [] => (none, {c with deeds := wrap64 (c.deeds + 1)})
  | h :: r => if c.since < h.after then (none, {c with deeds := wrap64 (c.deeds + 1), since := wrap64 (c.since + 1)})
      else (some h, {c with deeds := wrap64 (c.deeds + 1), hits := r, since := 0})
def doneS (c : Chp) (b at_ : Nat) (ws : List UInt8) : Chp × Nat :=
  let s := strikeS c
  let c2 : Chp := {s.2 with bytes := spl c.bytes at_ (mixL s.1 (seg c.bytes at_ ws.length) ws)}
  match s.1 with
  | none => (c2, 0)
  | some h => if h.fails then ({c2 with bad := c2.bad.set b true}, 9) else ({c2 with dead := true}, 10)
def thereS (c : Chp) (b p : Int) : Prop := 0 ≤ b ∧ b < c.B ∧ 0 ≤ p ∧ p < c.P
instance (c : Chp) (b p : Int) : Decidable (thereS c b p) := by unfold thereS; exact inferInstance
def askS (c : Chp) (b p : Int) : Nat := if c.dead then 10 else if thereS c b p then 0 else 2
def blk255 (l : List UInt8) : Prop := ∀ x ∈ l, x = 255
instance (l : List UInt8) : Decidable (blk255 l) := by unfold blk255; exact inferInstance
def programS (c : Chp) (b p : Int) (ws : List UInt8) : Chp × Nat :=
  if c.dead then (c, 10) else if ¬ thereS c b p ∨ ws.length ≠ c.S then (c, 2)
  else if c.bad[b.toNat]? = some true then (c, 9)
  else if ¬ blk255 ((c.row b.toNat).drop (p.toNat * c.S)) then (c, 8)
  else doneS c b.toNat (b.toNat * c.N + p.toNat * c.S) ws
def eraseS (c : Chp) (b : Int) : Chp × Nat :=
  if c.dead then (c, 10) else if ¬ thereS c b 0 then (c, 2)
  else if c.bad[b.toNat]? = some true then (c, 9)
  else doneS c b.toNat (b.toNat * c.N) (List.replicate c.N 255)
def readS (c : Chp) (b p : Int) : List UInt8 × Nat :=
  if askS c b p ≠ 0 then ([], askS c b p) else (seg c.bytes (b.toNat * c.N + p.toNat * c.S) c.S, 0)
def hitsS (c : Chp) (l : List Htt) : Chp × Nat := if l.any (fun h => decide (h.after < 0)) = true then (c, 2) else ({c with hits := l, since := 0}, 0)
def powerS (c : Chp) : Chp := {c with hits := [], since := 0, dead := false, deeds := 0}
def newS (B P S Sp : Nat) : Chp := ⟨B, P, S, Sp, List.replicate (B * (P * S)) 255, List.replicate B false, [], 0, false, 0⟩
theorem strikeS_same (c : Chp) : (strikeS c).2.B = c.B ∧ (strikeS c).2.P = c.P ∧ (strikeS c).2.S = c.S ∧ (strikeS c).2.Sp = c.Sp ∧ (strikeS c).2.bytes = c.bytes ∧ (strikeS c).2.bad = c.bad ∧ (strikeS c).2.dead = c.dead := by
  unfold strikeS
  split
  · exact ⟨rfl, rfl, rfl, rfl, rfl, rfl, rfl⟩
  · split <;> exact ⟨rfl, rfl, rfl, rfl, rfl, rfl, rfl⟩
end Go.Proofs.Ytlcdabmclcfagaa
