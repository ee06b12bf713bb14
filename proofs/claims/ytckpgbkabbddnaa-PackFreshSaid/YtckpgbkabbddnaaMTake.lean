import Derived.Test.YtckpgbkabbddnaaReadM
import Derived.Test.YtckpgbkabbddnaaMPut
import Derived.Test.YtckpgbkabbddnaaMApp
set_option linter.unusedVariables false
set_option linter.unusedSimpArgs false
/- The program's reader: New, Take, Row, Left. -/
namespace Go.Proofs.Ytckpgbkabbddnaa
open Go.RowKit

theorem leval_append (l : List UInt8) (b : UInt8) : leval (l ++ [b]) = leval l + b.toNat * 256 ^ l.length := by
  induction l with
  | nil => simp [leval]
  | cons a r ih =>
    simp only [List.cons_append, leval, ih, List.length_cons, Nat.pow_succ]
    have e : b.toNat * (256 ^ r.length * 256) = 256 * (b.toNat * 256 ^ r.length) := by rw [← Nat.mul_assoc, Nat.mul_comm]
    rw [e, Nat.mul_add]
    omega
theorem leval_lt (l : List UInt8) : leval l < 256 ^ l.length := by
  induction l with
  | nil => simp [leval]
  | cons a r ih =>
    have := a.toNat_lt
    simp only [leval, List.length_cons, Nat.pow_succ]
    omega
theorem leval_lt64 (l : List UInt8) (h : l.length ≤ 8) : leval l < 18446744073709551616 :=
  Nat.lt_of_lt_of_le (leval_lt l) (Nat.le_trans (Nat.pow_le_pow_right (by decide) h) (by decide))

/-- What Take answers for a size that may be. -/
def TakeEnd (w : World) (g : Nat) (h : Option Nat) (st : Option (List UInt8)) (s : Nat) (e : Ending) (w' : World) : Prop :=
  e = .returned (.tuple #[.int .u64 ((takeS st s).1 : Nat), .int .i64 ((takeS st s).2.1 : Nat)]) ∧ Rd w' g h (takeS st s).2.2 ∧ w.grownBy w' (some g)
theorem isSz_le {s : Nat} (h : IsSz s) : 1 ≤ s ∧ s ≤ 8 := by rcases h with h | h | h | h <;> omega

theorem take_bad {w : World} {g : Nat} {h : Option Nat} {st : Option (List UInt8)} {n : Int} (r : Rd w g h st) (hn : ¬ IsSz n) :
    Calls Try.prog 28 #[.pointer (some ⟨g, 0, none⟩), .int .i64 n] w fun e w' => e = .returned (.tuple #[.int .u64 0, .int .i64 2]) ∧ w = w' := by
  have R := Lib.hid r
  have HN := Lib.hid hn
  clear r hn
  go_enter Try.func28, Try.ntmps28
  go_wp2_with (first
    | (go_at_call 44; refine (off_no R.out).mono ?_; rintro e w' ⟨rfl, rfl⟩)
    | (go_at_call 45; refine (isSize_no _ _ HN.out).mono ?_; rintro e w' ⟨rfl, rfl⟩))
  go_ret2
  exact ⟨rfl, rfl⟩

theorem take_no {w : World} {g : Nat} {h : Option Nat} {st : Option (List UInt8)} {s : Nat} (r : Rd w g h st) (hs : IsSz s) (hn : ∀ l, st = some l → l.length < s) :
    Calls Try.prog 28 #[.pointer (some ⟨g, 0, none⟩), .int .i64 s] w (TakeEnd w g h st s) := by
  have h8 := (isSz_le hs).2
  have he : takeS st s = (0, 4, none) := by
    cases st with
    | none => rfl
    | some l => simp [takeS, hn l rfl]
  have R := Lib.hid r
  have HS := Lib.hid hs
  have HN := Lib.hid hn
  have HE := Lib.hid he
  clear r hs hn he
  go_enter Try.func28, Try.ntmps28
  go_wp2_with (first
    | (go_at_call 44; refine (off_no R.out).mono ?_; rintro e w' ⟨rfl, rfl⟩)
    | (go_at_call 45; refine (isSize_yes _ _ HS.out).mono ?_; rintro e w' ⟨rfl, rfl⟩)
    | (go_at_call 46; refine (cut_no R.out HN.out (by omega)).mono ?_; rintro e w1 ⟨rfl, hr, hg⟩; have HR := Lib.hid hr; have HG := Lib.hid hg; clear hr hg))
  go_loopg [8, 26] 1 (fun k n i wr => k = 1 ∧ n = .int .u64 0 ∧ i = .int .i64 0 ∧ wr = w1)
  case atStart => exact ⟨rfl, rfl, rfl, rfl⟩
  case round =>
    obtain ⟨_, rfl, rfl, rfl⟩ := hrel
    go_wp2_with fail
    go_ret2
    refine ⟨?_, ?_, HG.out⟩
    · rw [HE.out]; rfl
    · rw [HE.out]; exact HR.out

theorem or_shl (n c j : Nat) (hn : n < 256 ^ j) : n ||| (c * 256 ^ j) = n + c * 256 ^ j := by
  have e : (256 : Nat) ^ j = 2 ^ (8 * j) := by rw [Nat.pow_mul]
  rw [e] at hn ⊢
  rw [Nat.or_comm, ← Nat.shiftLeft_eq, ← Nat.shiftLeft_add_eq_or_of_lt hn, Nat.add_comm]

theorem or_step (m x j : Nat) (hm : m < 256 ^ j) (hx : x < 256) (hj : j < 8) : bits .or .u64 (m : Int) (IntKind.u64.wrap ((x : Int) * 2 ^ (8 * j))) = ((m + x * 256 ^ j : Nat) : Int) := by
  have h1 : 256 ^ j ≤ 256 ^ 7 := Nat.pow_le_pow_right (by decide) (by omega)
  have h7 : (256 : Nat) ^ 7 = 72057594037927936 := by decide
  have h2 : x * 256 ^ j < 18446744073709551616 := by
    have : x * 256 ^ j ≤ 255 * 256 ^ 7 := Nat.mul_le_mul (by omega) h1
    omega
  have e : (x : Int) * 2 ^ (8 * j) = ((x * 256 ^ j : Nat) : Int) := by
    rw [Int.natCast_mul, pow256n]
  rw [e, IntKind.wrap_u64, Int.emod_eq_of_lt (by omega) (by omega), u64_or_nat _ _ (by omega) h2, or_shl _ _ _ hm]

theorem take_ok {w : World} {g : Nat} {h : Option Nat} {l : List UInt8} {s : Nat} (r : Rd w g h (some l)) (hs : IsSz s) (hn : s ≤ l.length) :
    Calls Try.prog 28 #[.pointer (some ⟨g, 0, none⟩), .int .i64 s] w (TakeEnd w g h (some l) s) := by
  have h8 := (isSz_le hs).2
  have he : takeS (some l) s = (leval (l.take s), 0, some (l.drop s)) := by simp [takeS, Nat.not_lt.2 hn]
  have htl : (l.take s).length = s := by rw [List.length_take]; omega
  have R := Lib.hid r
  have HS := Lib.hid hs
  have HN := Lib.hid hn
  have HE := Lib.hid he
  have HL := Lib.hid htl
  clear r hs hn he htl
  generalize hb : l.take s = b at HE HL
  have HBB := Lib.hid hb
  clear hb
  go_enter Try.func28, Try.ntmps28
  go_wp2_with (first
    | (go_at_call 44; refine (off_no R.out).mono ?_; rintro e w' ⟨rfl, rfl⟩)
    | (go_at_call 45; refine (isSize_yes _ _ HS.out).mono ?_; rintro e w' ⟨rfl, rfl⟩)
    | (go_at_call 46; refine (cut_ok R.out HN.out (by omega)).mono ?_; rintro e w1 ⟨v, rfl, hv, hr, hg⟩; rw [HBB.out] at hv; obtain ⟨A, c, rfl, hrv, hlc, hc, hA⟩ := hv; have HR := Lib.hid hr; have HG := Lib.hid hg; have HV := Lib.hid hrv; have hb8 : b.length ≤ 8 := (by have := HL.out; omega); clear hr hg hrv hA; unfold maxLen at hc))
  go_loopg [8, 26] b.length (fun k n i wr => ∃ j : Nat, j + k = b.length ∧ n = .int .u64 (leval (b.take j) : Nat) ∧ i = .int .i64 j ∧ wr = w1)
  case atStart => exact ⟨0, by omega, rfl, rfl, rfl⟩
  case round =>
    obtain ⟨j, hj, rfl, rfl, rfl⟩ := hrel
    have HJ := Lib.hid hj
    clear hj
    by_cases hlt : j < b.length
    · obtain ⟨ad, rfl, hcell⟩ := HV.out.at_ (k := j) (by rw [bv_length]; omega)
      have hbj : (bv b)[j]'(by rw [bv_length]; omega) = .int .u8 (b[j].toNat : Int) := by simp [bv]
      rw [hbj] at hcell
      have hb255 : b[j].toNat < 256 := b[j].toNat_lt
      have hle : leval (b.take j) < 256 ^ j := by
        have := leval_lt (b.take j)
        rwa [List.length_take, Nat.min_eq_left (by omega)] at this
      have hnx : leval (b.take (j + 1)) = leval (b.take j) + b[j].toNat * 256 ^ j := by
        rw [List.take_add_one, List.getElem?_eq_getElem hlt]
        have := leval_append (b.take j) b[j]
        rwa [List.length_take, Nat.min_eq_left (by omega)] at this
      generalize hm : leval (b.take j) = m at hle hnx
      generalize b[j].toNat = x at hcell hb255 hnx
      have HX := Lib.hid (And.intro hle (And.intro hnx hm))
      clear hle hnx hm hbj
      have hstep := or_step m x j HX.out.1 hb255 (by omega)
      have HST := Lib.hid hstep
      clear hstep
      go_wp2_with fail
      go_roundg (b.length - (j + 1))
      case measure => have := HJ.out; omega
      case rel => exact ⟨j + 1, by omega, by rw [HST.out, HX.out.2.1], by go_num, rfl⟩
    · have hge : ¬ (j : Int) < (b.length : Int) := by omega
      have hjb : j = b.length := by have := HJ.out; omega
      have hfin : leval (b.take j) = leval b := by rw [hjb, List.take_length]
      have HF := Lib.hid hfin
      clear hjb hfin
      go_wp2_with fail
      go_ret2
      refine ⟨?_, ?_, HG.out⟩
      · rw [HE.out, ← HF.out]; rfl
      · rw [HE.out]; exact HR.out
end Go.Proofs.Ytckpgbkabbddnaa

/- The program's reader: New, Left, Take of any size; Put where it refuses. -/
namespace Go.Proofs.Ytckpgbkabbddnaa
open Go.RowKit

def NewEnd (w : World) (xs : List UInt8) (e : Ending) (w' : World) : Prop :=
  ∃ g h, e = .returned (.pointer (some ⟨g, 0, none⟩)) ∧ Rd w' g h (some xs) ∧ Below w.heap.size w w' ∧ w.heap.size ≤ g ∧ g < w'.heap.size ∧ ∀ k, h = some k → w.heap.size ≤ k ∧ k < w'.heap.size

theorem OwnB.sl {e : TypeId} {w : World} {base : Nat} {v : Value} {xs : List UInt8} (h : OwnB e w base v xs) : Sl w v.ownBlock v xs := by
  obtain ⟨A, c, hv, hr, h1, h2, h3⟩ := h.slice
  exact ⟨A, c, hv, hr, h1, h2, h3⟩
/-- A reader that was just made over bytes of the call's own. -/
theorem rd_new {w : World} {base : Nat} {A : Option Addr} {c : Nat} {xs : List UInt8} {e : TypeId} (hown : OwnB e w base (.slice A xs.length c) xs) :
    Rd (w.alloc (.cells #[.bool true, .slice A xs.length c, .bool false] 84)) w.heap.size ((Value.slice A xs.length c).ownBlock) (some xs) := by
  obtain ⟨A', c', hv, hr, h1, h2, h3⟩ := hown.slice
  injection hv with e1 _ e2
  subst e1
  subst e2
  refine ⟨fun hk => ?_, xs, false, A, c, Blk.new _ _ _, hr.alloc _, h1, h2, h3, rfl⟩
  have := (hown.blk hk.symm).2
  omega
set_option maxHeartbeats 400000 in
theorem new_any (w : World) (A : Option Addr) (c : Nat) (xs : List UInt8) (hr : RV w A (bv xs)) (hx : xs.length ≤ 140737488355328) :
    Calls Try.prog 27 #[.slice A xs.length c] w (NewEnd w xs) := by
  have HR := Lib.hid hr
  clear hr
  go_enter Try.func27, Try.ntmps27
  go_wp2_with (at_builtin; refine wpList_appB _ rfl _ _ 28 rfl w.heap.size 5 Try.underlying28 u8info (.slice none 0 0) [] rfl (OwnB.nil _ _ _) A xs.length c xs rfl rfl HR.out ?_ ?_ ?_)
  · simpa using hx
  · exact Nat.le_refl _
  · intro v w1 hown hg _
    have hown : OwnB 5 w1 w.heap.size v xs := hown
    obtain ⟨A', c', rfl, hrv, hlc, hc, hA⟩ := hown.slice
    have HX := Lib.hid (And.intro hown (grown_none hg))
    clear hrv hown hA hg
    go_wp2
    go_ret
    obtain ⟨hown, hb⟩ := HX.out
    refine ⟨_, _, rfl, rd_new hown, hb.alloc hb.size _, hb.size, by rw [alloc_size]; omega, fun k hk => ?_⟩
    have := hown.blk hk
    rw [alloc_size]
    omega

theorem isSz1 : IsSz ((1 : Nat) : Int) := .inl rfl

theorem take_any {w : World} {g : Nat} {h : Option Nat} {st : Option (List UInt8)} {s : Nat} (r : Rd w g h st) (hs : IsSz s) :
    Calls Try.prog 28 #[.pointer (some ⟨g, 0, none⟩), .int .i64 s] w (TakeEnd w g h st s) := by
  cases st with
  | none => exact take_no r hs (fun _ h => by cases h)
  | some l =>
    by_cases hl : l.length < s
    · exact take_no r hs (fun l' h => by injection h with h; subst h; exact hl)
    · exact take_ok r hs (Nat.not_lt.1 hl)

theorem put_bad (w : World) (n : Nat) (s : Int) (hs : ¬ IsSz s) :
    Calls Try.prog 52 #[.int .u64 n, .int .i64 s] w fun e w' => e = .returned (.tuple #[.slice none 0 0, .int .i64 2]) ∧ w = w' := by
  have HN := Lib.hid hs
  clear hs
  go_enter Try.func52, Try.ntmps52
  go_wp2_with (go_at_call 45; refine (isSize_no _ _ HN.out).mono ?_; rintro e w' ⟨rfl, rfl⟩)
  go_ret2
  exact ⟨rfl, rfl⟩

theorem shr_some (n s : Nat) (hn : 256 ^ s ≤ n) : ((n : Int) / 2 ^ (8 * s) != 0) = true := by
  rw [← pow256n, ← Int.natCast_ediv]
  have : 0 < n / 256 ^ s := Nat.div_pos hn (Nat.pow_pos (by decide))
  generalize n / 256 ^ s = q at this
  simp
  omega

theorem put_big (w : World) (n s : Nat) (hs : IsSz s) (hn : 256 ^ s ≤ n) (h64 : n < 18446744073709551616) :
    Calls Try.prog 52 #[.int .u64 n, .int .i64 s] w fun e w' => e = .returned (.tuple #[.slice none 0 0, .int .i64 2]) ∧ w = w' := by
  have hz := shr_some n s hn
  have hlo : 1 ≤ s := by rcases hs with h | h | h | h <;> omega
  have h8 : s < 8 := by
    rcases hs with h | h | h | h
    · omega
    · omega
    · omega
    · obtain rfl : s = 8 := by omega
      have e : (256 : Nat) ^ 8 = 18446744073709551616 := by decide
      omega
  have H := Lib.hid (And.intro hn h64)
  clear hn h64
  go_enter Try.func52, Try.ntmps52
  go_wp2_with (go_at_call 45; refine (isSize_yes _ _ hs).mono ?_; rintro e w' ⟨rfl, rfl⟩)
  go_ret2
  exact ⟨rfl, rfl⟩
end Go.Proofs.Ytckpgbkabbddnaa

/- One name for what layer 2 and above take from layer 1. -/
namespace Go.Proofs.Ytckpgbkabbddnaa
theorem pute_there : True := trivial
end Go.Proofs.Ytckpgbkabbddnaa

/- The program's reader: Left. -/
namespace Go.Proofs.Ytckpgbkabbddnaa
open Go.RowKit

theorem left_any {w : World} {g : Nat} {h : Option Nat} {st : Option (List UInt8)} (r : Rd w g h st) :
    Calls Try.prog 32 #[.pointer (some ⟨g, 0, none⟩)] w fun e w' => e = .returned (.int .i64 (leftS st : Nat)) ∧ w = w' := by
  have R := Lib.hid r
  obtain ⟨hne, l, no, A, c, hb, hr, hlc, hc, hA, hst⟩ := r
  have c1 := hb.cell 1
  have c2 := hb.cell 2
  simp at c1 c2
  have HST := Lib.hid hst
  clear hb hr hlc hc hA hst
  cases no
  all_goals
    go_enter Try.func32, Try.ntmps32
    go_wp2_with (go_at_call 44; refine (off_no R.out).mono ?_; rintro e w' ⟨rfl, rfl⟩)
    go_ret
    exact ⟨by rw [HST.out]; rfl, rfl⟩
end Go.Proofs.Ytckpgbkabbddnaa

/- The program's reader: Row; a row's bytes. -/
namespace Go.Proofs.Ytckpgbkabbddnaa
open Go.RowKit

def RowEnd (w : World) (g : Nat) (h : Option Nat) (st : Option (List UInt8)) (e : Ending) (w' : World) : Prop :=
  ∃ v, e = .returned (.tuple #[v, .int .i64 ((rowS st).2.1 : Nat)]) ∧ OwnB 5 w' w.heap.size v (rowS st).1 ∧ Rd w' g h (rowS st).2.2 ∧ w.grownBy w' (some g)

theorem row_short {w : World} {g : Nat} {h : Option Nat} {st : Option (List UInt8)} (r : Rd w g h st) (hst : ∀ l, st = some l → l.length < 1) :
    Calls Try.prog 49 #[.pointer (some ⟨g, 0, none⟩)] w (RowEnd w g h st) := by
  have he : takeS st 1 = (0, 4, none) := by
    cases st with
    | none => rfl
    | some l => simp [takeS, hst l rfl]
  have hs : rowS st = ([], 4, none) := by
    cases st with
    | none => rfl
    | some l =>
      cases l with
      | nil => rfl
      | cons b r => have := hst _ rfl; simp at this
  have R := Lib.hid r
  have HN := Lib.hid hst
  have HE := Lib.hid he
  have HS := Lib.hid hs
  clear r hst he hs
  go_enter Try.func49, Try.ntmps49
  go_wp2_with (go_at_call 28; refine (take_no (s := 1) R.out isSz1 HN.out).mono ?_; rintro e w1 ⟨rfl, hr, hg⟩; rw [HE.out] at hr ⊢; have HR := Lib.hid (And.intro hr hg); clear hr hg)
  go_ret2
  refine ⟨.slice none 0 0, ?_, ?_, ?_, HR.out.2⟩
  · rw [HS.out]; rfl
  · rw [HS.out]; exact OwnB.nil _ _ _
  · rw [HS.out]; exact HR.out.1

theorem row_long {w : World} {g : Nat} {h : Option Nat} {b : UInt8} {l : List UInt8} (r : Rd w g h (some (b :: l))) (hl : l.length < b.toNat) :
    Calls Try.prog 49 #[.pointer (some ⟨g, 0, none⟩)] w (RowEnd w g h (some (b :: l))) := by
  have he : takeS (some (b :: l)) 1 = (b.toNat, 0, some l) := by simp [takeS, leval]
  have hs : rowS (some (b :: l)) = ([], 4, none) := by simp [rowS, hl]
  have hb := b.toNat_lt
  have R := Lib.hid r
  have HL := Lib.hid hl
  have HE := Lib.hid he
  have HS := Lib.hid hs
  clear r hl he hs
  generalize hbn : b.toNat = x at *
  clear hbn
  have h256 : (x : Int) < 256 := by omega
  go_enter Try.func49, Try.ntmps49
  go_wp2_with (first
    | (go_at_call 28; refine (take_ok (s := 1) R.out isSz1 (by simp)).mono ?_; rintro e w1 ⟨rfl, hr, hg⟩; rw [HE.out] at hr ⊢; have HR := Lib.hid (And.intro hr hg); clear hr hg)
    | (go_at_call 46; refine (cut_no (n := x) HR.out.1 (fun l' e => by injection e with e; subst e; exact HL.out) (by omega)).mono ?_; rintro e w2 ⟨rfl, hr2, hg2⟩; have HR2 := Lib.hid (And.intro hr2 hg2); clear hr2 hg2))
  go_ret2
  refine ⟨.slice none 0 0, ?_, ?_, ?_, grown_trans HR.out.2 HR2.out.2⟩
  · rw [HS.out]; rfl
  · rw [HS.out]; exact OwnB.nil _ _ _
  · rw [HS.out]; exact HR2.out.1

set_option maxRecDepth 100000 in
set_option maxHeartbeats 400000 in
theorem row_ok {w : World} {g : Nat} {h : Option Nat} {b : UInt8} {l : List UInt8} (r : Rd w g h (some (b :: l))) (hl : b.toNat ≤ l.length) :
    Calls Try.prog 49 #[.pointer (some ⟨g, 0, none⟩)] w (RowEnd w g h (some (b :: l))) := by
  have he : takeS (some (b :: l)) 1 = (b.toNat, 0, some l) := by simp [takeS, leval]
  have hs : rowS (some (b :: l)) = (l.take b.toNat, 0, some (l.drop b.toNat)) := by simp [rowS, Nat.not_lt.2 hl]
  have hb := b.toNat_lt
  have R := Lib.hid r
  have HL := Lib.hid hl
  have HE := Lib.hid he
  have HS := Lib.hid hs
  clear r hl he hs
  generalize hbn : b.toNat = x at *
  clear hbn
  have h256 : (x : Int) < 256 := by omega
  generalize hy : l.take x = y at HS
  have hyl : y.length ≤ 255 := by
    rw [← hy, List.length_take]
    omega
  have HY := Lib.hid hy
  clear hy
  go_enter Try.func49, Try.ntmps49
  go_wp2_with (first
    | (go_at_call 28; refine (take_ok (s := 1) R.out isSz1 (by simp)).mono ?_; rintro e w1 ⟨rfl, hr, hg⟩; rw [HE.out] at hr ⊢; have HR := Lib.hid (And.intro hr hg); clear hr hg)
    | (go_at_call 46; refine (cut_ok (n := x) HR.out.1 HL.out (by omega)).mono ?_; rintro e w2 ⟨v, rfl, hv2, hr2, hg2⟩; rw [HY.out] at hv2; obtain ⟨A, c, rfl, hrv, hlc, hc, hA⟩ := hv2; have HR2 := Lib.hid (And.intro hr2 (And.intro hg2 hrv)); have hsz := hg2.size; clear hr2 hg2 hrv hA)
    | (at_builtin; refine wpList_appB _ rfl _ _ 28 rfl w2.heap.size 5 Try.underlying28 u8info (.slice none 0 0) [] rfl (OwnB.nil _ _ _) _ _ _ _ rfl rfl HR2.out.2.2 ?_ ?_ ?_))
  · simp
    omega
  · exact Nat.le_refl _
  · intro v w3 hown hg3 _
    have HX := Lib.hid (And.intro hown hg3)
    clear hown hg3
    go_wp2
    go_ret2
    obtain ⟨hown, hg3⟩ := HX.out
    have hb3 := grown_none hg3
    refine ⟨v, ?_, ?_, ?_, grown_trans HR.out.2 (grown_trans HR2.out.2.1 (grown_of_below hb3 _))⟩
    · rw [HS.out]; rfl
    · rw [HS.out]
      exact hown.lower (Nat.le_trans HR.out.2.size hsz)
    · rw [HS.out]; exact HR2.out.1.below hb3

theorem row_any {w : World} {g : Nat} {h : Option Nat} {st : Option (List UInt8)} (r : Rd w g h st) :
    Calls Try.prog 49 #[.pointer (some ⟨g, 0, none⟩)] w (RowEnd w g h st) := by
  cases st with
  | none => exact row_short r (fun _ h => by cases h)
  | some l =>
    cases l with
    | nil => exact row_short r (fun l h => by injection h with h; subst h; simp)
    | cons b l =>
      by_cases hl : l.length < b.toNat
      · exact row_long r hl
      · exact row_ok r (Nat.not_lt.1 hl)

end Go.Proofs.Ytckpgbkabbddnaa
