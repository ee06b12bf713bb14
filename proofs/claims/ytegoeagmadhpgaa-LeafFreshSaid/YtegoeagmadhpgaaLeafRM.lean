import Derived.Test.YtegoeagmadhpgaaMPlain
import Derived.Test.YtegoeagmadhpgaaOwnGM
set_option linter.unusedVariables false
set_option linter.unusedSimpArgs false
/- Layer 15: rows of facts, of children, of the call's own. -/
namespace Go.Proofs.Ytegoeagmadhpgaa
open Go.RowKit

def chdCells (c : Chd) (v : Value) : List Value := [.int .i64 c.key.ino, .int .u8 (c.key.what.toNat : Int), .string c.key.name, .int .i64 c.key.chunk, .int .i64 c.block, .int .i64 c.page]
def Chd.val (c : Chd) : List UInt8 := []
theorem chd_len (c : Chd) (v : Value) : (chdCells c v).length = 6 := rfl
theorem chd_one (c : Chd) (A : Option Addr) (n d : Nat) : ∀ u ∈ chdCells c (.slice A n d), u.oneCell' = true := by
  intro u hu
  simp only [chdCells, List.mem_cons, List.not_mem_nil, or_false] at hu
  rcases hu with rfl | rfl | rfl | rfl | rfl | rfl <;> rfl
abbrev ChdsIn (w : World) (A : Option Addr) (n : Nat) (l : List Chd) : Prop := ListIn chdCells Chd.val (fun c => okKy c.key) 6 w A n l
theorem ChdsIn.at_ {w : World} {A : Option Addr} {n : Nat} {l : List Chd} (h : ChdsIn w A n l) {i : Nat} {c : Chd} (hi : l[i]? = some c) :
    okKy c.key ∧ ∃ ad, A = some ad ∧ (ad.add (i * 6)).block < w.heap.size ∧
      w.cell? (ad.add (i * 6)) = some (.int .i64 c.key.ino) ∧ w.cell? ⟨(ad.add (i * 6)).block, (ad.add (i * 6)).off + 1, none⟩ = some (.int .u8 (c.key.what.toNat : Int)) ∧ w.cell? ⟨(ad.add (i * 6)).block, (ad.add (i * 6)).off + 2, none⟩ = some (.string c.key.name) ∧ w.cell? ⟨(ad.add (i * 6)).block, (ad.add (i * 6)).off + 3, none⟩ = some (.int .i64 c.key.chunk) ∧
      w.cell? ⟨(ad.add (i * 6)).block, (ad.add (i * 6)).off + 4, none⟩ = some (.int .i64 c.block) ∧ w.cell? ⟨(ad.add (i * 6)).block, (ad.add (i * 6)).off + 5, none⟩ = some (.int .i64 c.page) := by
  obtain ⟨h1, ad, v, h2, _, h4⟩ := h.2 i c hi
  have c0 := h4 0 _ rfl
  rw [add_zero] at c0
  exact ⟨h1, ad, h2, World.block_lt_of_cell? w _ c0, c0, h4 1 _ rfl, h4 2 _ rfl, h4 3 _ rfl, h4 4 _ rfl, h4 5 _ rfl⟩

abbrev OwnFG (w : World) (base : Nat) (v : Value) (n : Nat) (ps : List (Fct × Value)) : Prop := OwnG fctCells Fct.val (fun c => okKy c.key) 5 w base v n ps
abbrev OwnCG (w : World) (base : Nat) (v : Value) (n : Nat) (ps : List (Chd × Value)) : Prop := OwnG chdCells Chd.val (fun c => okKy c.key) 6 w base v n ps
theorem fct_info : (Try.prog.info? 32).map (fun i => (i.zero.map (·.cells.size), i.size, i.bytes)) = some (some 5, 5, 64) := by kernel_rfl
theorem fct_info' : ∃ i z, Try.prog.info? 32 = some i ∧ i.zero = some z ∧ i.size = 5 ∧ i.bytes = 64 ∧ z.cells.size = 5 := by
  obtain ⟨i, hi, he⟩ := Option.map_eq_some_iff.1 fct_info
  simp only [Prod.mk.injEq] at he
  obtain ⟨z, hz, hz5⟩ := Option.map_eq_some_iff.1 he.1
  exact ⟨i, z, hi, hz, he.2.1, he.2.2, hz5⟩
theorem chd_info : (Try.prog.info? 73).map (fun i => (i.zero.map (·.cells.size), i.size, i.bytes)) = some (some 6, 6, 56) := by kernel_rfl
theorem chd_info' : ∃ i z, Try.prog.info? 73 = some i ∧ i.zero = some z ∧ i.size = 6 ∧ i.bytes = 56 ∧ z.cells.size = 6 := by
  obtain ⟨i, hi, he⟩ := Option.map_eq_some_iff.1 chd_info
  simp only [Prod.mk.injEq] at he
  obtain ⟨z, hz, hz5⟩ := Option.map_eq_some_iff.1 he.1
  exact ⟨i, z, hi, hz, he.2.1, he.2.2, hz5⟩
end Go.Proofs.Ytegoeagmadhpgaa
