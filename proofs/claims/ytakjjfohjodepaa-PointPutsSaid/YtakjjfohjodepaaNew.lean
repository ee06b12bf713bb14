/- The program's reader: New, Left, Take of any size; Put where it refuses. -/
import Derived.Test.YtakjjfohjodepaaTake
set_option linter.unusedVariables false
set_option linter.unusedSimpArgs false
namespace Go.Proofs.Ytakjjfohjodepaa
open Go.RowKit

def NewEnd (w : World) (xs : List UInt8) (e : Ending) (w' : World) : Prop :=
  ∃ g h, e = .returned (.pointer (some ⟨g, 0, none⟩)) ∧ Rd w' g h (some xs) ∧ Below w.heap.size w w' ∧ w.heap.size ≤ g ∧ g < w'.heap.size ∧ ∀ k, h = some k → w.heap.size ≤ k ∧ k < w'.heap.size

theorem OwnB.sl {e : TypeId} {w : World} {base : Nat} {v : Value} {xs : List UInt8} (h : OwnB e w base v xs) : Sl w v.ownBlock v xs := by
  obtain ⟨A, c, hv, hr, h1, h2, h3⟩ := h.slice
  exact ⟨A, c, hv, hr, h1, h2, h3⟩
/-- A reader that was just made over bytes of the call's own. -/
theorem rd_new {w : World} {base : Nat} {A : Option Addr} {c : Nat} {xs : List UInt8} {e : TypeId} (hown : OwnB e w base (.slice A xs.length c) xs) :
    Rd (w.alloc (.cells #[.bool true, .slice A xs.length c, .bool false] 60)) w.heap.size ((Value.slice A xs.length c).ownBlock) (some xs) := by
  obtain ⟨A', c', hv, hr, h1, h2, h3⟩ := hown.slice
  injection hv with e1 _ e2
  subst e1
  subst e2
  refine ⟨fun hk => ?_, xs, false, A, c, Blk.new _ _ _, hr.alloc _, h1, h2, h3, rfl⟩
  have := (hown.blk hk.symm).2
  omega
theorem alloc_size (w : World) (o : Obj) : (w.alloc o).heap.size = w.heap.size + 1 := by simp

set_option maxHeartbeats 400000 in
theorem new_any (w : World) (A : Option Addr) (c : Nat) (xs : List UInt8) (hr : RV w A (bv xs)) (hx : xs.length ≤ 140737488355328) :
    Calls Try.prog 18 #[.slice A xs.length c] w (NewEnd w xs) := by
  have HR := Lib.hid hr
  clear hr
  go_enter Try.func18, Try.ntmps18
  go_wp2_with (at_builtin; refine wpList_appB _ rfl _ _ 22 rfl w.heap.size 5 Try.underlying22 u8info (.slice none 0 0) [] rfl (OwnB.nil _ _ _) A xs.length c xs rfl rfl HR.out ?_ ?_ ?_)
  · simpa using hx
  · exact Nat.le_refl _
  · intro v w1 hown hg _
    have hown : OwnB 5 w1 w.heap.size v xs := hown
    obtain ⟨A', c', rfl, hrv, hlc, hc, hA⟩ := hown.slice
    have HX := Lib.hid (And.intro hown (grown_none hg))
    clear hrv hown hA hg
    go_wp2
    go_ret
    obtain ⟨hown, hb⟩ := HX.out
    refine ⟨_, _, rfl, rd_new hown, hb.alloc hb.size _, hb.size, by rw [alloc_size]; omega, fun k hk => ?_⟩
    have := hown.blk hk
    rw [alloc_size]
    omega

theorem isSz1 : IsSz ((1 : Nat) : Int) := .inl rfl

theorem take_any {w : World} {g : Nat} {h : Option Nat} {st : Option (List UInt8)} {s : Nat} (r : Rd w g h st) (hs : IsSz s) :
    Calls Try.prog 19 #[.pointer (some ⟨g, 0, none⟩), .int .i64 s] w (TakeEnd w g h st s) := by
  cases st with
  | none => exact take_no r hs (fun _ h => by cases h)
  | some l =>
    by_cases hl : l.length < s
    · exact take_no r hs (fun l' h => by injection h with h; subst h; exact hl)
    · exact take_ok r hs (Nat.not_lt.1 hl)

def PutEnd (w : World) (xs : List UInt8) (e : Ending) (w' : World) : Prop :=
  ∃ v, e = .returned (.tuple #[v, .int .i64 0]) ∧ OwnB 5 w' w.heap.size v xs ∧ Below w.heap.size w w'

/-- One byte that was laid as a literal. -/
theorem own_lit1 (w : World) (e : TypeId) (n : Nat) (hn : n < 256) : OwnB e (w.alloc (.cells #[.int .u8 (n : Int)] e)) w.heap.size (.slice (some ⟨w.heap.size, 0, none⟩) 1 1) [UInt8.ofNat n] := by
  have h := RowB.new w e [UInt8.ofNat n]
  have e1 : (bv [UInt8.ofNat n]).toArray = #[.int .u8 (n : Int)] := by
    simp [bv]
    omega
  rw [e1] at h
  exact OwnB.whole (Nat.le_refl _) h (by simp [maxLen])

theorem put_bad (w : World) (n : Nat) (s : Int) (hs : ¬ IsSz s) :
    Calls Try.prog 37 #[.int .u64 n, .int .i64 s] w fun e w' => e = .returned (.tuple #[.slice none 0 0, .int .i64 2]) ∧ w = w' := by
  have HN := Lib.hid hs
  clear hs
  go_enter Try.func37, Try.ntmps37
  go_wp2_with (go_at_call 32; refine (isSize_no _ _ HN.out).mono ?_; rintro e w' ⟨rfl, rfl⟩)
  go_ret2
  exact ⟨rfl, rfl⟩

theorem shr_some (n s : Nat) (hn : 256 ^ s ≤ n) : ((n : Int) / 2 ^ (8 * s) != 0) = true := by
  rw [← pow256n, ← Int.natCast_ediv]
  have : 0 < n / 256 ^ s := Nat.div_pos hn (Nat.pow_pos (by decide))
  generalize n / 256 ^ s = q at this
  simp
  omega

theorem put_big (w : World) (n s : Nat) (hs : IsSz s) (hn : 256 ^ s ≤ n) (h64 : n < 18446744073709551616) :
    Calls Try.prog 37 #[.int .u64 n, .int .i64 s] w fun e w' => e = .returned (.tuple #[.slice none 0 0, .int .i64 2]) ∧ w = w' := by
  have hz := shr_some n s hn
  have hlo : 1 ≤ s := by rcases hs with h | h | h | h <;> omega
  have h8 : s < 8 := by
    rcases hs with h | h | h | h
    · omega
    · omega
    · omega
    · obtain rfl : s = 8 := by omega
      have e : (256 : Nat) ^ 8 = 18446744073709551616 := by decide
      omega
  have H := Lib.hid (And.intro hn h64)
  clear hn h64
  go_enter Try.func37, Try.ntmps37
  go_wp2_with (go_at_call 32; refine (isSize_yes _ _ hs).mono ?_; rintro e w' ⟨rfl, rfl⟩)
  go_ret2
  exact ⟨rfl, rfl⟩
end Go.Proofs.Ytakjjfohjodepaa
