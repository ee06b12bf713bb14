/- Keys, plain: what may be, which stands ahead of which, their bytes. -/
import Derived.Test.YtlioclicopakbaaMem
set_option linter.unusedVariables false
set_option linter.unusedSimpArgs false
namespace Go.Proofs.Ytlioclicopakbaa
open Go.RowKit

/-- A key. -/
structure Ky where
  ino : Int
  what : UInt8
  name : ByteArray
  chunk : Int
deriving DecidableEq
def Ky.val (k : Ky) : Value := .agg #[.int .i64 k.ino, .int .u8 (k.what.toNat : Int), .string k.name, .int .i64 k.chunk]

/-- What a comparison answers. -/
def cmpI (x y : Int) : Int := if x < y then -1 else if y < x then 1 else 0
def cmpB (x y : ByteArray) : Int := if Op.bytesLess x.toList y.toList = true then -1 else if x.toList = y.toList then 0 else 1
/-- The first one that is not 0. -/
def orI : List Int → Int
  | [] => 0
  | a :: r => if a = 0 then orI r else a
def ordK (a b : Ky) : Int := orI [cmpI a.ino b.ino, cmpI (a.what.toNat : Int) (b.what.toNat : Int), cmpB a.name b.name, cmpI a.chunk b.chunk]
def keyLt (a b : Ky) : Prop := ordK a b < 0
instance (a b : Ky) : Decidable (keyLt a b) := by unfold keyLt; exact inferInstance

/-- May a byte stand in a name? -/
def mayB (b : UInt8) : Prop := (97 ≤ b.toNat ∧ b.toNat ≤ 122) ∨ (48 ≤ b.toNat ∧ b.toNat ≤ 57) ∨ b.toNat = 46 ∨ b.toNat = 45
instance (b : UInt8) : Decidable (mayB b) := by unfold mayB; exact inferInstance
def nameL (l : List UInt8) : Prop := (∀ b ∈ l, mayB b) ∧ 1 ≤ l.length ∧ l.length ≤ 12 ∧ l ≠ [46] ∧ l ≠ [46, 46]
instance (l : List UInt8) : Decidable (nameL l) := by unfold nameL; exact inferInstance
def nameS (s : ByteArray) : Prop := nameL s.data.toList
instance (s : ByteArray) : Decidable (nameS s) := by unfold nameS; exact inferInstance
def mayK (k : Ky) : Prop := 1 ≤ k.ino ∧ k.ino ≤ 65535 ∧
  ((k.what = 1 ∧ k.name = .empty ∧ k.chunk = 0) ∨ (k.what = 2 ∧ nameS k.name ∧ k.chunk = 0) ∨ (k.what = 3 ∧ k.name = .empty ∧ 0 ≤ k.chunk ∧ k.chunk < 8))
instance (k : Ky) : Decidable (mayK k) := by unfold mayK; exact inferInstance
/-- A key's bytes, if it may be. -/
def keyB (k : Ky) : List UInt8 := digs k.ino.toNat 2 ++ [k.what] ++ (if k.what = 2 then UInt8.ofNat k.name.data.toList.length :: k.name.data.toList else if k.what = 3 then [UInt8.ofNat k.chunk.toNat] else [])
def putKeyS (k : Ky) : List UInt8 × Nat := if mayK k then (keyB k, 0) else ([], 2)
theorem keyB_length {k : Ky} (h : mayK k) : 3 ≤ (keyB k).length ∧ (keyB k).length ≤ 16 := by
  unfold keyB
  rcases h.2.2 with ⟨e, _⟩ | ⟨e, hn, _⟩ | ⟨e, _⟩
  · rw [e]; simp [digs_length]
  · rw [e]
    have h1 := hn.2.1
    have h2 := hn.2.2.1
    simp only [if_pos, List.length_append, digs_length, List.length_cons, List.length_nil]
    omega
  · rw [e]; simp [digs_length]
end Go.Proofs.Ytlioclicopakbaa
