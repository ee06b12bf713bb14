import Derived.Test.YtlioclicopakbaaMRows
import Derived.Test.YtlioclicopakbaaRecTM
import Derived.Test.YtlioclicopakbaaMBase
set_option linter.unusedVariables false
set_option linter.unusedSimpArgs false
/- Facts and changes in memory. -/
namespace Go.Proofs.Ytlioclicopakbaa
open Go.RowKit

/-- A fact. -/
structure Fct where
  key : Ky
  val : List UInt8
deriving DecidableEq
def chgCells (c : Chg) (v : Value) : List Value := [.int .i64 c.key.ino, .int .u8 (c.key.what.toNat : Int), .string c.key.name, .int .i64 c.key.chunk, v, .bool c.gone]
def fctCells (f : Fct) (v : Value) : List Value := [.int .i64 f.key.ino, .int .u8 (f.key.what.toNat : Int), .string f.key.name, .int .i64 f.key.chunk, v]
def okKy (k : Ky) : Prop := k.name.size ≤ maxLen
abbrev ChgsIn (w : World) (A : Option Addr) (n : Nat) (l : List Chg) : Prop := ListIn chgCells Chg.val (fun c => okKy c.key) 6 w A n l
abbrev FctsIn (w : World) (A : Option Addr) (n : Nat) (l : List Fct) : Prop := ListIn fctCells Fct.val (fun c => okKy c.key) 5 w A n l
theorem chg_len (c : Chg) (v : Value) : (chgCells c v).length = 6 := rfl
theorem fct_len (c : Fct) (v : Value) : (fctCells c v).length = 5 := rfl
theorem chg_one (c : Chg) (A : Option Addr) (n d : Nat) : ∀ u ∈ chgCells c (.slice A n d), u.oneCell' = true := by
  intro u hu
  simp only [chgCells, List.mem_cons, List.not_mem_nil, or_false] at hu
  rcases hu with rfl | rfl | rfl | rfl | rfl | rfl <;> rfl
theorem fct_one (c : Fct) (A : Option Addr) (n d : Nat) : ∀ u ∈ fctCells c (.slice A n d), u.oneCell' = true := by
  intro u hu
  simp only [fctCells, List.mem_cons, List.not_mem_nil, or_false] at hu
  rcases hu with rfl | rfl | rfl | rfl | rfl <;> rfl
/-- A change, cell by cell. -/
theorem ChgsIn.at_ {w : World} {A : Option Addr} {n : Nat} {l : List Chg} (h : ChgsIn w A n l) {i : Nat} {c : Chg} (hi : l[i]? = some c) :
    okKy c.key ∧ ∃ ad B d, A = some ad ∧ RV w B (bv c.val) ∧ c.val.length ≤ d ∧ d ≤ maxLen ∧ (ad.add (i * 6)).block < w.heap.size ∧
      w.cell? (ad.add (i * 6)) = some (.int .i64 c.key.ino) ∧ w.cell? ⟨(ad.add (i * 6)).block, (ad.add (i * 6)).off + 1, none⟩ = some (.int .u8 (c.key.what.toNat : Int)) ∧ w.cell? ⟨(ad.add (i * 6)).block, (ad.add (i * 6)).off + 2, none⟩ = some (.string c.key.name) ∧
      w.cell? ⟨(ad.add (i * 6)).block, (ad.add (i * 6)).off + 3, none⟩ = some (.int .i64 c.key.chunk) ∧ w.cell? ⟨(ad.add (i * 6)).block, (ad.add (i * 6)).off + 4, none⟩ = some (.slice B c.val.length d) ∧ w.cell? ⟨(ad.add (i * 6)).block, (ad.add (i * 6)).off + 5, none⟩ = some (.bool c.gone) := by
  obtain ⟨h1, ad, v, h2, ⟨B, d, hv, hr, l1, l2, _⟩, h4⟩ := h.2 i c hi
  subst hv
  have c0 := h4 0 _ rfl
  rw [add_zero] at c0
  exact ⟨h1, ad, B, d, h2, hr, l1, l2, World.block_lt_of_cell? w _ c0, c0, h4 1 _ rfl, h4 2 _ rfl, h4 3 _ rfl, h4 4 _ rfl, h4 5 _ rfl⟩
theorem FctsIn.at_ {w : World} {A : Option Addr} {n : Nat} {l : List Fct} (h : FctsIn w A n l) {i : Nat} {c : Fct} (hi : l[i]? = some c) :
    okKy c.key ∧ ∃ ad B d, A = some ad ∧ RV w B (bv c.val) ∧ c.val.length ≤ d ∧ d ≤ maxLen ∧ (ad.add (i * 5)).block < w.heap.size ∧
      w.cell? (ad.add (i * 5)) = some (.int .i64 c.key.ino) ∧ w.cell? ⟨(ad.add (i * 5)).block, (ad.add (i * 5)).off + 1, none⟩ = some (.int .u8 (c.key.what.toNat : Int)) ∧ w.cell? ⟨(ad.add (i * 5)).block, (ad.add (i * 5)).off + 2, none⟩ = some (.string c.key.name) ∧
      w.cell? ⟨(ad.add (i * 5)).block, (ad.add (i * 5)).off + 3, none⟩ = some (.int .i64 c.key.chunk) ∧ w.cell? ⟨(ad.add (i * 5)).block, (ad.add (i * 5)).off + 4, none⟩ = some (.slice B c.val.length d) := by
  obtain ⟨h1, ad, v, h2, ⟨B, d, hv, hr, l1, l2, _⟩, h4⟩ := h.2 i c hi
  subst hv
  have c0 := h4 0 _ rfl
  rw [add_zero] at c0
  exact ⟨h1, ad, B, d, h2, hr, l1, l2, World.block_lt_of_cell? w _ c0, c0, h4 1 _ rfl, h4 2 _ rfl, h4 3 _ rfl, h4 4 _ rfl⟩
def bodyS' (l : List Chg) : List UInt8 × Bool := if bodyOk l then (bodyB l, true) else ([], false)
theorem flat_chg_le (l : List Chg) (h : ∀ c ∈ l, chgOk c) : (l.flatMap chgB).length ≤ 273 * l.length := by
  induction l with
  | nil => simp
  | cons a l ih =>
    have h1 := chgB_length (h a (by simp))
    have h2 := ih fun c hc => h c (by simp [hc])
    simp only [List.flatMap_cons, List.length_append, List.length_cons]
    omega
end Go.Proofs.Ytlioclicopakbaa

/- Facts in a row; a change that is done; plain. -/
namespace Go.Proofs.Ytlioclicopakbaa
open Go.RowKit

/-- Facts in order. -/
def ordB : List Fct → Bool
  | a :: b :: r => decide (keyLt a.key b.key) && ordB (b :: r)
  | _ => true
theorem ordB_iff : ∀ l : List Fct, ordB l = true ↔ ∀ i a b, l[i]? = some a → l[i + 1]? = some b → keyLt a.key b.key
  | [] => ⟨fun _ i a b h => by simp at h, fun _ => rfl⟩
  | [x] => ⟨fun _ i a b h h' => by simp at h', fun _ => rfl⟩
  | x :: y :: r => by
    have ih := ordB_iff (y :: r)
    simp only [ordB, Bool.and_eq_true, decide_eq_true_eq, ih]
    constructor
    · rintro ⟨h1, h2⟩ i a b ha hb
      cases i with
      | zero => simp at ha hb; rw [← ha, ← hb]; exact h1
      | succ i => exact h2 i a b (by simpa using ha) (by simpa using hb)
    · intro h
      exact ⟨h 0 x y rfl rfl, fun i a b ha hb => h (i + 1) a b (by simpa using ha) (by simpa using hb)⟩
/-- One change, done to facts. -/
def oneGo (c : Fct) : List Fct → Bool → List Fct
  | [], done => if done = true then [] else [c]
  | f :: r, done =>
    if f.key = c.key then (if done = true then [] else [c]) ++ oneGo c r true
    else if done = false ∧ keyLt c.key f.key then c :: f :: oneGo c r true
    else f :: oneGo c r done
def oneF (l : List Fct) (c : Chg) : List Fct := oneGo ⟨c.key, c.val⟩ l c.gone
def applyF (l : List Fct) (cs : List Chg) : List Fct := if ordB l = true then cs.foldl oneF l else []
/-- A change of a key behind all. -/
theorem oneGo_last (c : Fct) : ∀ l : List Fct, (∀ f ∈ l, keyLt f.key c.key) → oneGo c l false = l ++ [c]
  | [], _ => rfl
  | f :: r, h => by
    have h1 := h f (by simp)
    have ih := oneGo_last c r fun g hg => h g (by simp [hg])
    rw [oneGo, if_neg (keyLt_ne h1), if_neg (fun hh => keyLt_asymm h1 hh.2), ih]
    rfl
theorem oneGo_len (c : Fct) : ∀ (l : List Fct) (d : Bool), (oneGo c l d).length ≤ l.length + 1
  | [], d => by unfold oneGo; split <;> simp
  | f :: r, d => by
    have i1 := oneGo_len c r true
    have i2 := oneGo_len c r d
    have i3 : ∀ r : List Fct, (oneGo c r true).length ≤ r.length := by
      intro r
      induction r with
      | nil => simp [oneGo]
      | cons g r ih =>
        unfold oneGo
        split
        · simp; omega
        · rw [if_neg (by simp)]; simp; omega
    have i4 := i3 r
    unfold oneGo
    split
    · split
      · simp; omega
      · simp; omega
    · split
      · simp; omega
      · simp; omega
end Go.Proofs.Ytlioclicopakbaa
