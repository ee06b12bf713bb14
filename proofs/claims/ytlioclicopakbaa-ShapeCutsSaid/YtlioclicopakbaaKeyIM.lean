import Derived.Test.YtlioclicopakbaaPgsM
import Derived.Test.YtlioclicopakbaaIntsM
set_option linter.unusedVariables false
set_option linter.unusedSimpArgs false
/- Keys in memory. -/
namespace Go.Proofs.Ytlioclicopakbaa
open Go.RowKit

def kyCells (k : Ky) (v : Value) : List Value := [.int .i64 k.ino, .int .u8 (k.what.toNat : Int), .string k.name, .int .i64 k.chunk]
def kyVal (k : Ky) : List UInt8 := []
abbrev KeysIn (w : World) (A : Option Addr) (n : Nat) (l : List Ky) : Prop := ListIn kyCells kyVal okKy 4 w A n l
abbrev OwnY (w : World) (base : Nat) (v : Value) (n : Nat) (l : List Ky) : Prop := OwnL kyCells kyVal okKy 4 33 w base v n l
theorem ky_len (c : Ky) (v : Value) : (kyCells c v).length = 4 := rfl
theorem ky_one (c : Ky) (A : Option Addr) (n d : Nat) : ∀ u ∈ kyCells c (.slice A n d), u.oneCell' = true := by
  intro u hu
  simp only [kyCells, List.mem_cons, List.not_mem_nil, or_false] at hu
  rcases hu with rfl | rfl | rfl | rfl <;> rfl
theorem ky_info : (Try.prog.info? 33).map (fun i => (i.zero.map (·.cells.size), i.size, i.bytes)) = some (some 4, 4, 40) := by kernel_rfl
theorem ky_info' : ∃ i z, Try.prog.info? 33 = some i ∧ i.zero = some z ∧ i.size = 4 ∧ i.bytes = 40 ∧ z.cells.size = 4 := by
  obtain ⟨i, hi, he⟩ := Option.map_eq_some_iff.1 ky_info
  simp only [Prod.mk.injEq] at he
  obtain ⟨z, hz, hz5⟩ := Option.map_eq_some_iff.1 he.1
  exact ⟨i, z, hi, hz, he.2.1, he.2.2, hz5⟩
theorem noVal (w : World) (row : Option Nat) : ValB w row (.slice none 0 0) [] := ⟨none, 0, rfl, RV.nil _ _, Nat.le_refl _, by decide, fun _ h => by cases h⟩
/-- A key, cell by cell. -/
theorem KeysIn.at_ {w : World} {A : Option Addr} {n : Nat} {l : List Ky} (h : KeysIn w A n l) {i : Nat} {c : Ky} (hi : l[i]? = some c) :
    okKy c ∧ ∃ ad, A = some ad ∧ (ad.add (i * 4)).block < w.heap.size ∧
      w.cell? (ad.add (i * 4)) = some (.int .i64 c.ino) ∧ w.cell? ⟨(ad.add (i * 4)).block, (ad.add (i * 4)).off + 1, none⟩ = some (.int .u8 (c.what.toNat : Int)) ∧ w.cell? ⟨(ad.add (i * 4)).block, (ad.add (i * 4)).off + 2, none⟩ = some (.string c.name) ∧
      w.cell? ⟨(ad.add (i * 4)).block, (ad.add (i * 4)).off + 3, none⟩ = some (.int .i64 c.chunk) := by
  obtain ⟨h1, ad, v, h2, _, h4⟩ := h.2 i c hi
  have c0 := h4 0 _ rfl
  rw [add_zero] at c0
  exact ⟨h1, ad, h2, World.block_lt_of_cell? w _ c0, c0, h4 1 _ rfl, h4 2 _ rfl, h4 3 _ rfl⟩
/-- Numbers; an error. -/
def IntsEnd (w : World) (r : List Nat × Nat) (e : Ending) (w' : World) : Prop :=
  ∃ v, e = .returned (.tuple #[v, .int .i64 (r.2 : Int)]) ∧ OwnI 3 w' w.heap.size v r.1 ∧ Below w.heap.size w w'
end Go.Proofs.Ytlioclicopakbaa
