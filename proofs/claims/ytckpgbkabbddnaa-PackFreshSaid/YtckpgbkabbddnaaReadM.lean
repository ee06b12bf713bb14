import Derived.Deep.QuietTactic
import Derived.BigQuiet
import Derived.Test.YtckpgbkabbddnaaProg
import Derived.Test.YtckpgbkabbddnaaMApp
import Derived.Test.YtckpgbkabbddnaaMBase
set_option linter.unusedVariables false
set_option linter.unusedSimpArgs false
/- Readers: the program's and the document's, one vocabulary for both. -/
namespace Go.Proofs.Ytckpgbkabbddnaa
open Go.RowKit

/-! ### readers -/
/-- A slice value that is read: 'l' stands there, in block h. -/
def Sl (w : World) (h : Option Nat) (v : Value) (l : List UInt8) : Prop :=
  ∃ A c, v = .slice A l.length c ∧ RV w A (bv l) ∧ l.length ≤ c ∧ c ≤ maxLen ∧ ∀ ad, A = some ad → some ad.block = h
/-- The program's reader (block g, its bytes in block h): what is left; none: it refused. -/
def Rd (w : World) (g : Nat) (h : Option Nat) (st : Option (List UInt8)) : Prop :=
  some g ≠ h ∧ ∃ l no A c, Blk w g 84 #[.bool true, .slice A l.length c, .bool no] ∧ RV w A (bv l) ∧ l.length ≤ c ∧ c ≤ maxLen ∧ (∀ ad, A = some ad → some ad.block = h) ∧ st = if no then none else some l

section
variable {w w' : World} {g : Nat} {h : Option Nat} {st : Option (List UInt8)}
theorem Rd.lt (r : Rd w g h st) : g < w.heap.size := by obtain ⟨_, l, no, A, c, hb, _⟩ := r; exact hb.lt
theorem Rd.keep (r : Rd w g h st) (hk : ∀ k, k < w.heap.size → k = g ∨ some k = h → w'.heap[k]? = w.heap[k]?) : Rd w' g h st := by
  obtain ⟨hne, l, no, A, c, hb, hr, hlc, hc, hA, hst⟩ := r
  exact ⟨hne, l, no, A, c, hb.heap (hk g hb.lt (.inl rfl)), hr.keep fun ad e hn => hk _ (hr.lt e hn) (.inr (hA ad e)), hlc, hc, hA, hst⟩
theorem Rd.below (r : Rd w g h st) (hb : Below w.heap.size w w') : Rd w' g h st := r.keep fun k hk _ => hb.block k hk
theorem Rd.grown (r : Rd w g h st) {k : Nat} (hb : w.grownBy w' (some k)) (hg : k ≠ g) (hh : some k ≠ h) : Rd w' g h st :=
  r.keep fun i hi e => hb.block i hi (fun e' => by injection e' with e'; subst e'; exact e.elim hg hh)
end

/-! ### what they answer -/
def leval : List UInt8 → Nat
  | [] => 0
  | b :: r => b.toNat + 256 * leval r
/-- A number of s bytes: the number, the error, what is left. -/
def takeS (st : Option (List UInt8)) (s : Nat) : Nat × Nat × Option (List UInt8) :=
  match st with
  | none => (0, 4, none)
  | some l => if l.length < s then (0, 4, none) else (leval (l.take s), 0, some (l.drop s))
def rowS (st : Option (List UInt8)) : List UInt8 × Nat × Option (List UInt8) :=
  match st with
  | none => ([], 4, none)
  | some [] => ([], 4, none)
  | some (b :: r) => if r.length < b.toNat then ([], 4, none) else (r.take b.toNat, 0, some (r.drop b.toNat))
def leftS (st : Option (List UInt8)) : Nat :=
  match st with
  | none => 0
  | some l => l.length

/-! ### off, cut -/
theorem off_no {w : World} {g : Nat} {h : Option Nat} {st : Option (List UInt8)} (r : Rd w g h st) :
    Calls Try.prog 44 #[.pointer (some ⟨g, 0, none⟩)] w fun e w' => e = .returned (.bool false) ∧ w = w' := by
  obtain ⟨hne, l, no, A, c, hb, hr, hlc, hc, hA, hst⟩ := r
  have c0 := hb.cell 0
  simp at c0
  clear hb hr hlc hc hA hst
  go_enter Try.func44, Try.ntmps44
  go_wp2
  go_ret
  exact ⟨rfl, rfl⟩

theorem map_add_block {A : Option Addr} {n : Nat} {h : Option Nat} (hA : ∀ ad, A = some ad → some ad.block = h) : ∀ ad, A.map (·.add n) = some ad → some ad.block = h := by
  intro ad he
  cases A with
  | none => cases he
  | some a =>
    obtain rfl := Option.some.inj he
    rw [block_add]
    exact hA a rfl

theorem rd_set {w : World} {g : Nat} {h : Option Nat} {v : Value} (hne : some g ≠ h) (hb : Blk w g 84 #[.bool true, v, .bool false]) {A : Option Addr} {c : Nat} {l : List UInt8} (hr : RV w A (bv l)) (hl : l.length ≤ c) (hc : c ≤ maxLen) (hA : ∀ ad, A = some ad → some ad.block = h) :
    Rd (w.setCell ⟨g, 1, none⟩ (.slice A l.length c)) g h (some l) :=
  ⟨hne, l, false, A, c, hb.set_ 1 _, hr.setCell (p := ⟨g, 1, none⟩) (fun ad e _ he => hne (by rw [← hA ad e]; exact congrArg some he.symm)) _, hl, hc, hA, rfl⟩
theorem rd_no {w : World} {g : Nat} {h : Option Nat} {no : Bool} (hne : some g ≠ h) {A : Option Addr} {c : Nat} {l : List UInt8} (hb : Blk w g 84 #[.bool true, .slice A l.length c, .bool no]) (hr : RV w A (bv l)) (hl : l.length ≤ c) (hc : c ≤ maxLen) (hA : ∀ ad, A = some ad → some ad.block = h) :
    Rd (w.setCell ⟨g, 2, none⟩ (.bool true)) g h none :=
  ⟨hne, l, true, A, c, hb.set_ 2 _, hr.setCell (p := ⟨g, 2, none⟩) (fun ad e _ he => hne (by rw [← hA ad e]; exact congrArg some he.symm)) _, hl, hc, hA, rfl⟩

/-- What cut answers where it refuses. -/
def CutNo (w : World) (g : Nat) (h : Option Nat) (e : Ending) (w' : World) : Prop := e = .returned (.tuple #[.slice none 0 0, .int .i64 4]) ∧ Rd w' g h none ∧ w.grownBy w' (some g)
/-- .. where there is enough. -/
def CutOk (w : World) (g : Nat) (h : Option Nat) (n : Nat) (l : List UInt8) (e : Ending) (w' : World) : Prop :=
  ∃ v, e = .returned (.tuple #[v, .int .i64 0]) ∧ Sl w' h v (l.take n) ∧ Rd w' g h (some (l.drop n)) ∧ w.grownBy w' (some g)

theorem cut_no {w : World} {g : Nat} {h : Option Nat} {st : Option (List UInt8)} {n : Nat} (r : Rd w g h st) (hn : ∀ l, st = some l → l.length < n) (hn2 : n ≤ 255) :
    Calls Try.prog 46 #[.pointer (some ⟨g, 0, none⟩), .int .i64 n] w (CutNo w g h) := by
  obtain ⟨hne, l, no, A, c, hb, hr, hlc, hc, hA, hst⟩ := r
  have c1 := hb.cell 1
  have c2 := hb.cell 2
  have f2 := hb.frozen 2
  simp at c1 c2
  have HX := Lib.hid (rd_no hne hb hr hlc hc hA)
  unfold maxLen at hc
  cases no with
  | true =>
    clear hb hr hA hst hn
    go_enter Try.func46, Try.ntmps46
    go_wp2
    go_ret2
    exact ⟨rfl, HX.out, grown_setCell _ _ _ _⟩
  | false =>
    have hlt : l.length < n := hn l (by simpa using hst)
    clear hb hr hA hst hn
    go_enter Try.func46, Try.ntmps46
    go_wp2
    go_ret2
    exact ⟨rfl, HX.out, grown_setCell _ _ _ _⟩

theorem cut_ok {w : World} {g : Nat} {h : Option Nat} {l : List UInt8} {n : Nat} (r : Rd w g h (some l)) (hn : n ≤ l.length) (hn2 : n ≤ 255) :
    Calls Try.prog 46 #[.pointer (some ⟨g, 0, none⟩), .int .i64 n] w (CutOk w g h n l) := by
  obtain ⟨hne, l', no, A, c, hb, hr, hlc, hc, hA, hst⟩ := r
  cases no with
  | true => cases hst
  | false =>
    obtain rfl : l = l' := by simpa using hst
    have c1 := hb.cell 1
    have c2 := hb.cell 2
    have f1 := hb.frozen 1
    simp at c1 c2
    have hdl : (l.drop n).length = l.length - n := List.length_drop
    have htl : (l.take n).length = n := by rw [List.length_take]; omega
    have hsl : ∀ v, Sl (w.setCell ⟨g, 1, none⟩ v) h (.slice A n n) (l.take n) := fun v => by
      refine ⟨A, n, by rw [htl], ?_, by omega, by unfold maxLen; omega, hA⟩
      rw [bv_take]
      exact (hr.take n).setCell (p := ⟨g, 1, none⟩) (fun ad e _ he => hne (by rw [← hA ad e]; exact congrArg some he.symm)) _
    have hA2 := rd_set hne hb (A := A.map (·.add n)) (c := c - n) (l := l.drop n) (by rw [bv_drop]; exact hr.drop n) (by omega) (by omega) (map_add_block hA)
    have hA1 : c = n → Rd (w.setCell ⟨g, 1, none⟩ (.slice A (l.length - n) 0)) g h (some (l.drop n)) := fun e => by
      have hd : l.drop n = [] := List.drop_eq_nil_of_le (by omega)
      have := rd_set hne hb (A := A) (c := 0) (l := l.drop n) (by rw [hd]; exact RV.nil _ _) (by rw [hd]; simp) (by simp) hA
      rwa [hdl] at this
    rw [hdl] at hA2
    have HX := Lib.hid (And.intro hsl (And.intro hA1 hA2))
    unfold maxLen at hc
    clear hb hr hA hst hsl hA1 hA2 hdl htl
    go_enter Try.func46, Try.ntmps46
    go_wp2
    · have he : c = n := by assumption
      go_ret2
      exact ⟨_, rfl, HX.out.1 _, HX.out.2.1 he, grown_setCell _ _ _ _⟩
    · go_ret2
      exact ⟨_, rfl, HX.out.1 _, HX.out.2.2, grown_setCell _ _ _ _⟩
end Go.Proofs.Ytckpgbkabbddnaa
