import Derived.Test.YtdagdjaefgadfaaMTake
import Derived.Test.YtdagdjaefgadfaaMApp
set_option linter.unusedVariables false
set_option linter.unusedSimpArgs false
/- The document's reader: what it is. -/
namespace Go.Proofs.Ytdagdjaefgadfaa
open Go.RowKit

/-- The document's. -/
def RdR (w : World) (g : Nat) (h : Option Nat) (st : Option (List UInt8)) : Prop :=
  some g ≠ h ∧ ∃ l no A c, Blk w g 62 #[.slice A l.length c, .bool no] ∧ RV w A (bv l) ∧ l.length ≤ c ∧ c ≤ maxLen ∧ (∀ ad, A = some ad → some ad.block = h) ∧ st = if no then none else some l

section
variable {w w' : World} {g : Nat} {h : Option Nat} {st : Option (List UInt8)}
theorem RdR.lt (r : RdR w g h st) : g < w.heap.size := by obtain ⟨_, l, no, A, c, hb, _⟩ := r; exact hb.lt
theorem RdR.keep (r : RdR w g h st) (hk : ∀ k, k < w.heap.size → k = g ∨ some k = h → w'.heap[k]? = w.heap[k]?) : RdR w' g h st := by
  obtain ⟨hne, l, no, A, c, hb, hr, hlc, hc, hA, hst⟩ := r
  exact ⟨hne, l, no, A, c, hb.heap (hk g hb.lt (.inl rfl)), hr.keep fun ad e hn => hk _ (hr.lt e hn) (.inr (hA ad e)), hlc, hc, hA, hst⟩
theorem RdR.below (r : RdR w g h st) (hb : Below w.heap.size w w') : RdR w' g h st := r.keep fun k hk _ => hb.block k hk
theorem RdR.grown (r : RdR w g h st) {k : Nat} (hb : w.grownBy w' (some k)) (hg : k ≠ g) (hh : some k ≠ h) : RdR w' g h st :=
  r.keep fun i hi e => hb.block i hi (fun e' => by injection e' with e'; subst e'; exact e.elim hg hh)
end
end Go.Proofs.Ytdagdjaefgadfaa

/- The document's sizes. -/
namespace Go.Proofs.Ytdagdjaefgadfaa
open Go.RowKit

/-! ### Size, Put -/
theorem size_yes (n : Int) (w : World) (h : IsSz n) : Calls Try.prog 52 #[.int .i64 n] w fun e w' => e = .returned (.bool true) ∧ w = w' := by
  rcases h with rfl | rfl | rfl | rfl <;>
  · go_enter Try.func52, Try.ntmps52
    go_wp2
    go_ret
    exact ⟨rfl, rfl⟩
theorem size_no (n : Int) (w : World) (h : ¬ IsSz n) : Calls Try.prog 52 #[.int .i64 n] w fun e w' => e = .returned (.bool false) ∧ w = w' := by
  unfold IsSz at h
  have h1 : (n == 1) = false := by simp; omega
  have h2 : (n == 2) = false := by simp; omega
  have h4 : (n == 4) = false := by simp; omega
  have h8 : (n == 8) = false := by simp; omega
  clear h
  go_enter Try.func52, Try.ntmps52
  go_wp2
  go_ret
  exact ⟨rfl, rfl⟩
end Go.Proofs.Ytdagdjaefgadfaa

/- The document's reader: Take, Row, Left; its Row of bytes. -/
namespace Go.Proofs.Ytdagdjaefgadfaa
open Go.RowKit

theorem rdr_set {w : World} {g : Nat} {h : Option Nat} {v : Value} (hne : some g ≠ h) (hb : Blk w g 62 #[v, .bool false]) {A : Option Addr} {c : Nat} {l : List UInt8} (hr : RV w A (bv l)) (hl : l.length ≤ c) (hc : c ≤ maxLen) (hA : ∀ ad, A = some ad → some ad.block = h) :
    RdR (w.setCell ⟨g, 0, none⟩ (.slice A l.length c)) g h (some l) :=
  ⟨hne, l, false, A, c, hb.set_ 0 _, hr.setCell (p := ⟨g, 0, none⟩) (fun ad e _ he => hne (by rw [← hA ad e]; exact congrArg some he.symm)) _, hl, hc, hA, rfl⟩
theorem rdr_no {w : World} {g : Nat} {h : Option Nat} {no : Bool} (hne : some g ≠ h) {A : Option Addr} {c : Nat} {l : List UInt8} (hb : Blk w g 62 #[.slice A l.length c, .bool no]) (hr : RV w A (bv l)) (hl : l.length ≤ c) (hc : c ≤ maxLen) (hA : ∀ ad, A = some ad → some ad.block = h) :
    RdR (w.setCell ⟨g, 1, none⟩ (.bool true)) g h none :=
  ⟨hne, l, true, A, c, hb.set_ 1 _, hr.setCell (p := ⟨g, 1, none⟩) (fun ad e _ he => hne (by rw [← hA ad e]; exact congrArg some he.symm)) _, hl, hc, hA, rfl⟩

def RTakeEnd (w : World) (g : Nat) (h : Option Nat) (st : Option (List UInt8)) (s : Nat) (e : Ending) (w' : World) : Prop :=
  e = .returned (.tuple #[.int .u64 ((takeS st s).1 : Nat), .int .i64 ((takeS st s).2.1 : Nat)]) ∧ RdR w' g h (takeS st s).2.2 ∧ w.grownBy w' (some g)

theorem rtake_bad {w : World} {g : Nat} {n : Int} (hn : ¬ IsSz n) :
    Calls Try.prog 31 #[.pointer (some ⟨g, 0, none⟩), .int .i64 n] w fun e w' => e = .returned (.tuple #[.int .u64 0, .int .i64 2]) ∧ w = w' := by
  have HN := Lib.hid hn
  clear hn
  go_enter Try.func31, Try.ntmps31
  go_wp2_with (go_at_call 52; refine (size_no _ _ HN.out).mono ?_; rintro e w' ⟨rfl, rfl⟩)
  go_ret2
  exact ⟨rfl, rfl⟩

theorem rtake_no {w : World} {g : Nat} {h : Option Nat} {st : Option (List UInt8)} {s : Nat} (r : RdR w g h st) (hs : IsSz s) (hn : ∀ l, st = some l → l.length < s) :
    Calls Try.prog 31 #[.pointer (some ⟨g, 0, none⟩), .int .i64 s] w (RTakeEnd w g h st s) := by
  have h8 := (isSz_le hs).2
  have he : takeS st s = (0, 4, none) := by
    cases st with
    | none => rfl
    | some l => simp [takeS, hn l rfl]
  obtain ⟨hne, l, no, A, c, hb, hr, hlc, hc, hA, hst⟩ := r
  have c0 := hb.cell 0
  have c1 := hb.cell 1
  have f1 := hb.frozen 1
  simp at c0 c1
  have HX := Lib.hid (rdr_no hne hb hr hlc hc hA)
  have HE := Lib.hid he
  unfold maxLen at hc
  cases no with
  | true =>
    clear hb hr hA hst hn he
    go_enter Try.func31, Try.ntmps31
    go_wp2_with (go_at_call 52; refine (size_yes _ _ hs).mono ?_; rintro e w' ⟨rfl, rfl⟩)
    go_ret2
    exact ⟨by rw [HE.out]; rfl, by rw [HE.out]; exact HX.out, grown_setCell _ _ _ _⟩
  | false =>
    have hlt : l.length < s := hn l (by simpa using hst)
    clear hb hr hA hst hn he
    go_enter Try.func31, Try.ntmps31
    go_wp2_with (go_at_call 52; refine (size_yes _ _ hs).mono ?_; rintro e w' ⟨rfl, rfl⟩)
    go_ret2
    exact ⟨by rw [HE.out]; rfl, by rw [HE.out]; exact HX.out, grown_setCell _ _ _ _⟩

theorem leval_drop {l : List UInt8} {j : Nat} (h : j < l.length) : leval (l.drop j) = l[j].toNat + 256 * leval (l.drop (j + 1)) := by
  rw [List.drop_eq_getElem_cons h]
  rfl

set_option maxHeartbeats 400000 in
theorem rtake_ok {w : World} {g : Nat} {h : Option Nat} {l : List UInt8} {s : Nat} (r : RdR w g h (some l)) (hs : IsSz s) (hn : s ≤ l.length) :
    Calls Try.prog 31 #[.pointer (some ⟨g, 0, none⟩), .int .i64 s] w (RTakeEnd w g h (some l) s) := by
  have hlo := (isSz_le hs).1
  have h8 := (isSz_le hs).2
  have he : takeS (some l) s = (leval (l.take s), 0, some (l.drop s)) := by simp [takeS, Nat.not_lt.2 hn]
  have htl : (l.take s).length = s := by rw [List.length_take]; omega
  obtain ⟨hne, l', no, A, c, hb, hr, hlc, hc, hA, hst⟩ := r
  cases no with
  | true => cases hst
  | false =>
    obtain rfl : l = l' := by simpa using hst
    have c0 := hb.cell 0
    have c1 := hb.cell 1
    have f0 := hb.frozen 0
    simp at c0 c1
    obtain ⟨ad, rfl, hcell⟩ := hr (by rw [bv_length]; omega)
    have hdl : (l.drop s).length = l.length - s := List.length_drop
    have hA2 := rdr_set hne hb (A := (some ad).map (·.add s)) (c := c - s) (l := l.drop s) (by rw [bv_drop]; exact hr.drop s) (by omega) (by omega) (map_add_block hA)
    have hA1 : c = s → RdR (w.setCell ⟨g, 0, none⟩ (.slice (some ad) (l.length - s) 0)) g h (some (l.drop s)) := fun e => by
      have hd : l.drop s = [] := List.drop_eq_nil_of_le (by omega)
      have := rdr_set hne hb (A := some ad) (c := 0) (l := l.drop s) (by rw [hd]; exact RV.nil _ _) (by rw [hd]; simp) (by simp) hA
      rwa [hdl] at this
    rw [hdl] at hA2
    have HX := Lib.hid (And.intro hcell (And.intro hA1 (And.intro hA2 (And.intro he htl))))
    unfold maxLen at hc
    clear hb hr hA hst hA1 hA2 hdl he htl hcell
    go_enter Try.func31, Try.ntmps31
    go_wp2_with (go_at_call 52; refine (size_yes _ _ hs).mono ?_; rintro e w' ⟨rfl, rfl⟩)
    go_loopg [6, 7] s (fun k n i wr => k ≤ s ∧ i = .int .i64 ((k : Int) - 1) ∧ n = .int .u64 (leval ((l.take s).drop k) : Nat) ∧ wr = w)
    case atStart => exact ⟨Nat.le_refl _, rfl, by rw [List.drop_eq_nil_of_le (by rw [HX.out.2.2.2.2]; exact Nat.le_refl _)]; rfl, rfl⟩
    case round =>
      obtain ⟨hk, rfl, rfl, rfl⟩ := hrel
      cases gk with
      | zero =>
        go_wp2_with fail
        · have hcs : c = s := by assumption
          go_ret2
          exact ⟨by rw [HX.out.2.2.2.1]; rfl, by rw [HX.out.2.2.2.1]; exact HX.out.2.1 hcs, grown_setCell _ _ _ _⟩
        · go_ret2
          exact ⟨by rw [HX.out.2.2.2.1]; rfl, by rw [HX.out.2.2.2.1]; exact HX.out.2.2.1, grown_setCell _ _ _ _⟩
      | succ j =>
        have hj : j < (l.take s).length := by rw [HX.out.2.2.2.2]; omega
        have hjl : j < l.length := by omega
        have hcj := HX.out.1 j (.int .u8 (l[j].toNat : Int)) (by rw [bv_get, List.getElem?_eq_getElem hjl]; rfl)
        have hld := leval_drop hj
        rw [List.getElem_take] at hld
        have hlt := leval_lt64 ((l.take s).drop j) (by rw [List.length_drop, HX.out.2.2.2.2]; omega)
        generalize leval ((l.take s).drop (j + 1)) = m at hld
        have hx256 := l[j].toNat_lt
        generalize l[j].toNat = x at hcj hld hx256
        rw [hld] at hlt
        have HL := Lib.hid (And.intro hld hlt)
        have hm1 : (256 : Int) * m + x ≤ 18446744073709551615 := by omega
        clear hld hlt hj
        go_wp2_with fail
        go_roundg j
        case measure => omega
        case rel => exact ⟨by omega, by go_num, by rw [HL.out.1]; go_num, rfl⟩
end Go.Proofs.Ytdagdjaefgadfaa
