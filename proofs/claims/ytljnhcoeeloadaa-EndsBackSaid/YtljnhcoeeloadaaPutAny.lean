/- What Put and Row answer, whatever is asked: the program's and the document's alike. -/
import Derived.Test.YtljnhcoeeloadaaRefRow
import Derived.Test.YtljnhcoeeloadaaSame
set_option linter.unusedVariables false
set_option linter.unusedSimpArgs false
namespace Go.Proofs.Ytljnhcoeeloadaa
open Go.RowKit

open Classical in
noncomputable def putS (n : Nat) (s : Int) : List UInt8 × Nat := if IsSz s ∧ n < 256 ^ s.toNat then (digs n s.toNat, 0) else ([], 2)
def rowPutS (xs : List UInt8) : List UInt8 × Nat := if xs.length ≤ 255 then (UInt8.ofNat xs.length :: xs, 0) else ([], 3)
def PutAnyEnd (w : World) (r : List UInt8 × Nat) (e : Ending) (w' : World) : Prop :=
  ∃ v, e = .returned (.tuple #[v, .int .i64 (r.2 : Nat)]) ∧ OwnB 5 w' w.heap.size v r.1 ∧ Below w.heap.size w w'

theorem isSz_nat {s : Int} (h : IsSz s) : ∃ m : Nat, s = m := ⟨s.toNat, by rcases h with h | h | h | h <;> omega⟩

theorem put_any (w : World) (n : Nat) (s : Int) (h64 : n < 18446744073709551616) : Calls Try.prog 19 #[.int .u64 n, .int .i64 s] w (PutAnyEnd w (putS n s)) := by
  by_cases hs : IsSz s
  · obtain ⟨m, rfl⟩ := isSz_nat hs
    by_cases hn : n < 256 ^ m
    · have e : putS n m = (digs n m, 0) := by unfold putS; rw [if_pos ⟨hs, by simpa using hn⟩]; simp
      rw [e]
      exact put_ok n m w hs hn h64
    · have e : putS n m = ([], 2) := by unfold putS; rw [if_neg (fun h => hn (by simpa using h.2))]
      rw [e]
      exact (put_big w n m hs (Nat.not_lt.1 hn) h64).mono fun e w' ⟨he, hw⟩ => ⟨_, he, OwnB.nil _ _ _, hw ▸ Below.refl _ _⟩
  · have e : putS n s = ([], 2) := by unfold putS; rw [if_neg (fun h => hs h.1)]
    rw [e]
    exact (put_bad w n s hs).mono fun e w' ⟨he, hw⟩ => ⟨_, he, OwnB.nil _ _ _, hw ▸ Below.refl _ _⟩

theorem rput_all (w : World) (n : Nat) (s : Int) (h64 : n < 18446744073709551616) : Calls Try.prog 20 #[.int .u64 n, .int .i64 s] w (PutAnyEnd w (putS n s)) := by
  by_cases hs : IsSz s
  · obtain ⟨m, rfl⟩ := isSz_nat hs
    refine (rput_any w n m hs h64).mono fun e w' ⟨hb, h⟩ => ?_
    rcases h with ⟨hn, v, he, ho⟩ | ⟨hn, he⟩
    · have e : putS n m = (digs n m, 0) := by unfold putS; rw [if_pos ⟨hs, by simpa using hn⟩]; simp
      rw [e]
      exact ⟨v, he, ho, hb⟩
    · have e : putS n m = ([], 2) := by unfold putS; rw [if_neg (fun h => absurd (show n < 256 ^ m by simpa using h.2) (by omega))]
      rw [e]
      exact ⟨_, he, OwnB.nil _ _ _, hb⟩
  · have e : putS n s = ([], 2) := by unfold putS; rw [if_neg (fun h => hs h.1)]
    rw [e]
    exact (rput_bad w n s hs).mono fun e w' ⟨he, hw⟩ => ⟨_, he, OwnB.nil _ _ _, hw ▸ Below.refl _ _⟩

theorem putRow_any (w : World) (A : Option Addr) (c : Nat) (xs : List UInt8) (hr : RV w A (bv xs)) (hm : xs.length ≤ maxLen) :
    Calls Try.prog 21 #[.slice A xs.length c] w (PutAnyEnd w (rowPutS xs)) := by
  unfold rowPutS
  by_cases h : xs.length ≤ 255
  · rw [if_pos h]
    exact putRow_ok w A c xs hr h
  · rw [if_neg h]
    exact (putRow_no w A c xs (by omega) hm).mono fun e w' ⟨he, hw⟩ => ⟨_, he, OwnB.nil _ _ _, hw ▸ Below.refl _ _⟩

theorem rputRow_any (w : World) (A : Option Addr) (c : Nat) (xs : List UInt8) (hr : RV w A (bv xs)) (hm : xs.length ≤ maxLen) :
    Calls Try.prog 22 #[.slice A xs.length c] w (PutAnyEnd w (rowPutS xs)) := by
  unfold rowPutS
  by_cases h : xs.length ≤ 255
  · rw [if_pos h]
    exact rputRow_ok w A c xs hr h
  · rw [if_neg h]
    exact (rputRow_no w A c xs (by omega) hm).mono fun e w' ⟨he, hw⟩ => ⟨_, he, OwnB.nil _ _ _, hw ▸ Below.refl _ _⟩

theorem u64_nat {x : Int} (h : (Lit.int .u64 x).wf = true) : ∃ n : Nat, x = n ∧ n < 18446744073709551616 := by
  simp [Lit.wf, IntKind.min, IntKind.max, IntKind.signed, IntKind.bits] at h
  exact ⟨x.toNat, by omega, by omega⟩

/-- Two slices of the call's own that read the same are the same. -/
theorem same_own (w : World) (b1 b2 : Nat) (v1 v2 : Value) (xs : List UInt8) (h1 : OwnB 5 w b1 v1 xs) (h2 : OwnB 5 w b2 v2 xs) :
    Calls Try.prog 13 #[v1, v2] w fun e w' => e = .returned (.bool true) ∧ Drawn w w' := by
  obtain ⟨A, c, rfl, hr, hl, hc, _⟩ := h1.slice
  obtain ⟨B, d, rfl, hs, hl2, hd, _⟩ := h2.slice
  have := same_any A B c d xs xs w hr hs (Nat.le_trans hl hc) (Nat.le_trans hl hc)
  rwa [decide_eq_true rfl] at this
end Go.Proofs.Ytljnhcoeeloadaa
