/- Facts and changes in memory. -/
import Derived.Test.YtlioclicopakbaaListV
import Derived.Test.YtlioclicopakbaaRecT
set_option linter.unusedVariables false
set_option linter.unusedSimpArgs false
namespace Go.Proofs.Ytlioclicopakbaa
open Go.RowKit

/-- A fact. -/
structure Fct where
  key : Ky
  val : List UInt8
deriving DecidableEq
def chgCells (c : Chg) (v : Value) : List Value := [.int .i64 c.key.ino, .int .u8 (c.key.what.toNat : Int), .string c.key.name, .int .i64 c.key.chunk, v, .bool c.gone]
def fctCells (f : Fct) (v : Value) : List Value := [.int .i64 f.key.ino, .int .u8 (f.key.what.toNat : Int), .string f.key.name, .int .i64 f.key.chunk, v]
def okKy (k : Ky) : Prop := k.name.size ≤ maxLen
abbrev ChgsIn (w : World) (A : Option Addr) (n : Nat) (l : List Chg) : Prop := ListIn chgCells Chg.val (fun c => okKy c.key) 6 w A n l
abbrev FctsIn (w : World) (A : Option Addr) (n : Nat) (l : List Fct) : Prop := ListIn fctCells Fct.val (fun c => okKy c.key) 5 w A n l
theorem chg_len (c : Chg) (v : Value) : (chgCells c v).length = 6 := rfl
theorem fct_len (c : Fct) (v : Value) : (fctCells c v).length = 5 := rfl
theorem chg_one (c : Chg) (A : Option Addr) (n d : Nat) : ∀ u ∈ chgCells c (.slice A n d), u.oneCell' = true := by
  intro u hu
  simp only [chgCells, List.mem_cons, List.not_mem_nil, or_false] at hu
  rcases hu with rfl | rfl | rfl | rfl | rfl | rfl <;> rfl
theorem fct_one (c : Fct) (A : Option Addr) (n d : Nat) : ∀ u ∈ fctCells c (.slice A n d), u.oneCell' = true := by
  intro u hu
  simp only [fctCells, List.mem_cons, List.not_mem_nil, or_false] at hu
  rcases hu with rfl | rfl | rfl | rfl | rfl <;> rfl
/-- A change, cell by cell. -/
theorem ChgsIn.at_ {w : World} {A : Option Addr} {n : Nat} {l : List Chg} (h : ChgsIn w A n l) {i : Nat} {c : Chg} (hi : l[i]? = some c) :
    okKy c.key ∧ ∃ ad B d, A = some ad ∧ RV w B (bv c.val) ∧ c.val.length ≤ d ∧ d ≤ maxLen ∧ (ad.add (i * 6)).block < w.heap.size ∧
      w.cell? (ad.add (i * 6)) = some (.int .i64 c.key.ino) ∧ w.cell? ⟨(ad.add (i * 6)).block, (ad.add (i * 6)).off + 1, none⟩ = some (.int .u8 (c.key.what.toNat : Int)) ∧ w.cell? ⟨(ad.add (i * 6)).block, (ad.add (i * 6)).off + 2, none⟩ = some (.string c.key.name) ∧
      w.cell? ⟨(ad.add (i * 6)).block, (ad.add (i * 6)).off + 3, none⟩ = some (.int .i64 c.key.chunk) ∧ w.cell? ⟨(ad.add (i * 6)).block, (ad.add (i * 6)).off + 4, none⟩ = some (.slice B c.val.length d) ∧ w.cell? ⟨(ad.add (i * 6)).block, (ad.add (i * 6)).off + 5, none⟩ = some (.bool c.gone) := by
  obtain ⟨h1, ad, v, h2, ⟨B, d, hv, hr, l1, l2, _⟩, h4⟩ := h.2 i c hi
  subst hv
  have c0 := h4 0 _ rfl
  rw [add_zero] at c0
  exact ⟨h1, ad, B, d, h2, hr, l1, l2, World.block_lt_of_cell? w _ c0, c0, h4 1 _ rfl, h4 2 _ rfl, h4 3 _ rfl, h4 4 _ rfl, h4 5 _ rfl⟩
theorem FctsIn.at_ {w : World} {A : Option Addr} {n : Nat} {l : List Fct} (h : FctsIn w A n l) {i : Nat} {c : Fct} (hi : l[i]? = some c) :
    okKy c.key ∧ ∃ ad B d, A = some ad ∧ RV w B (bv c.val) ∧ c.val.length ≤ d ∧ d ≤ maxLen ∧ (ad.add (i * 5)).block < w.heap.size ∧
      w.cell? (ad.add (i * 5)) = some (.int .i64 c.key.ino) ∧ w.cell? ⟨(ad.add (i * 5)).block, (ad.add (i * 5)).off + 1, none⟩ = some (.int .u8 (c.key.what.toNat : Int)) ∧ w.cell? ⟨(ad.add (i * 5)).block, (ad.add (i * 5)).off + 2, none⟩ = some (.string c.key.name) ∧
      w.cell? ⟨(ad.add (i * 5)).block, (ad.add (i * 5)).off + 3, none⟩ = some (.int .i64 c.key.chunk) ∧ w.cell? ⟨(ad.add (i * 5)).block, (ad.add (i * 5)).off + 4, none⟩ = some (.slice B c.val.length d) := by
  obtain ⟨h1, ad, v, h2, ⟨B, d, hv, hr, l1, l2, _⟩, h4⟩ := h.2 i c hi
  subst hv
  have c0 := h4 0 _ rfl
  rw [add_zero] at c0
  exact ⟨h1, ad, B, d, h2, hr, l1, l2, World.block_lt_of_cell? w _ c0, c0, h4 1 _ rfl, h4 2 _ rfl, h4 3 _ rfl, h4 4 _ rfl⟩
def bodyS' (l : List Chg) : List UInt8 × Bool := if bodyOk l then (bodyB l, true) else ([], false)
theorem flat_chg_le (l : List Chg) (h : ∀ c ∈ l, chgOk c) : (l.flatMap chgB).length ≤ 273 * l.length := by
  induction l with
  | nil => simp
  | cons a l ih =>
    have h1 := chgB_length (h a (by simp))
    have h2 := ih fun c hc => h c (by simp [hc])
    simp only [List.flatMap_cons, List.length_append, List.length_cons]
    omega
end Go.Proofs.Ytlioclicopakbaa
