import Derived.Test.YtegoeagmadhpgaaMTake
import Derived.Test.YtegoeagmadhpgaaMApp
set_option linter.unusedVariables false
set_option linter.unusedSimpArgs false
/- The document's reader: what it is. -/
namespace Go.Proofs.Ytegoeagmadhpgaa
open Go.RowKit

/-- The document's. -/
def RdR (w : World) (g : Nat) (h : Option Nat) (st : Option (List UInt8)) : Prop :=
  some g ≠ h ∧ ∃ l no A c, Blk w g 58 #[.slice A l.length c, .bool no] ∧ RV w A (bv l) ∧ l.length ≤ c ∧ c ≤ maxLen ∧ (∀ ad, A = some ad → some ad.block = h) ∧ st = if no then none else some l

section
variable {w w' : World} {g : Nat} {h : Option Nat} {st : Option (List UInt8)}
theorem RdR.lt (r : RdR w g h st) : g < w.heap.size := by obtain ⟨_, l, no, A, c, hb, _⟩ := r; exact hb.lt
theorem RdR.keep (r : RdR w g h st) (hk : ∀ k, k < w.heap.size → k = g ∨ some k = h → w'.heap[k]? = w.heap[k]?) : RdR w' g h st := by
  obtain ⟨hne, l, no, A, c, hb, hr, hlc, hc, hA, hst⟩ := r
  exact ⟨hne, l, no, A, c, hb.heap (hk g hb.lt (.inl rfl)), hr.keep fun ad e hn => hk _ (hr.lt e hn) (.inr (hA ad e)), hlc, hc, hA, hst⟩
theorem RdR.below (r : RdR w g h st) (hb : Below w.heap.size w w') : RdR w' g h st := r.keep fun k hk _ => hb.block k hk
theorem RdR.grown (r : RdR w g h st) {k : Nat} (hb : w.grownBy w' (some k)) (hg : k ≠ g) (hh : some k ≠ h) : RdR w' g h st :=
  r.keep fun i hi e => hb.block i hi (fun e' => by injection e' with e'; subst e'; exact e.elim hg hh)
end
end Go.Proofs.Ytegoeagmadhpgaa

/- The document's sizes. -/
namespace Go.Proofs.Ytegoeagmadhpgaa
open Go.RowKit

/-! ### Size, Put -/
theorem size_yes (n : Int) (w : World) (h : IsSz n) : Calls Try.prog 54 #[.int .i64 n] w fun e w' => e = .returned (.bool true) ∧ w = w' := by
  rcases h with rfl | rfl | rfl | rfl <;>
  · go_enter Try.func54, Try.ntmps54
    go_wp2
    go_ret
    exact ⟨rfl, rfl⟩
theorem size_no (n : Int) (w : World) (h : ¬ IsSz n) : Calls Try.prog 54 #[.int .i64 n] w fun e w' => e = .returned (.bool false) ∧ w = w' := by
  unfold IsSz at h
  have h1 : (n == 1) = false := by simp; omega
  have h2 : (n == 2) = false := by simp; omega
  have h4 : (n == 4) = false := by simp; omega
  have h8 : (n == 8) = false := by simp; omega
  clear h
  go_enter Try.func54, Try.ntmps54
  go_wp2
  go_ret
  exact ⟨rfl, rfl⟩
end Go.Proofs.Ytegoeagmadhpgaa

/- The document's reader: Take, Row, Left; its Row of bytes. -/
namespace Go.Proofs.Ytegoeagmadhpgaa
open Go.RowKit

theorem rdr_set {w : World} {g : Nat} {h : Option Nat} {v : Value} (hne : some g ≠ h) (hb : Blk w g 58 #[v, .bool false]) {A : Option Addr} {c : Nat} {l : List UInt8} (hr : RV w A (bv l)) (hl : l.length ≤ c) (hc : c ≤ maxLen) (hA : ∀ ad, A = some ad → some ad.block = h) :
    RdR (w.setCell ⟨g, 0, none⟩ (.slice A l.length c)) g h (some l) :=
  ⟨hne, l, false, A, c, hb.set_ 0 _, hr.setCell (p := ⟨g, 0, none⟩) (fun ad e _ he => hne (by rw [← hA ad e]; exact congrArg some he.symm)) _, hl, hc, hA, rfl⟩
theorem rdr_no {w : World} {g : Nat} {h : Option Nat} {no : Bool} (hne : some g ≠ h) {A : Option Addr} {c : Nat} {l : List UInt8} (hb : Blk w g 58 #[.slice A l.length c, .bool no]) (hr : RV w A (bv l)) (hl : l.length ≤ c) (hc : c ≤ maxLen) (hA : ∀ ad, A = some ad → some ad.block = h) :
    RdR (w.setCell ⟨g, 1, none⟩ (.bool true)) g h none :=
  ⟨hne, l, true, A, c, hb.set_ 1 _, hr.setCell (p := ⟨g, 1, none⟩) (fun ad e _ he => hne (by rw [← hA ad e]; exact congrArg some he.symm)) _, hl, hc, hA, rfl⟩

def RTakeEnd (w : World) (g : Nat) (h : Option Nat) (st : Option (List UInt8)) (s : Nat) (e : Ending) (w' : World) : Prop :=
  e = .returned (.tuple #[.int .u64 ((takeS st s).1 : Nat), .int .i64 ((takeS st s).2.1 : Nat)]) ∧ RdR w' g h (takeS st s).2.2 ∧ w.grownBy w' (some g)

theorem rtake_bad {w : World} {g : Nat} {n : Int} (hn : ¬ IsSz n) :
    Calls Try.prog 30 #[.pointer (some ⟨g, 0, none⟩), .int .i64 n] w fun e w' => e = .returned (.tuple #[.int .u64 0, .int .i64 2]) ∧ w = w' := by
  have HN := Lib.hid hn
  clear hn
  go_enter Try.func30, Try.ntmps30
  go_wp2_with (go_at_call 54; refine (size_no _ _ HN.out).mono ?_; rintro e w' ⟨rfl, rfl⟩)
  go_ret2
  exact ⟨rfl, rfl⟩

theorem rtake_no {w : World} {g : Nat} {h : Option Nat} {st : Option (List UInt8)} {s : Nat} (r : RdR w g h st) (hs : IsSz s) (hn : ∀ l, st = some l → l.length < s) :
    Calls Try.prog 30 #[.pointer (some ⟨g, 0, none⟩), .int .i64 s] w (RTakeEnd w g h st s) := by
  have h8 := (isSz_le hs).2
  have he : takeS st s = (0, 4, none) := by
    cases st with
    | none => rfl
    | some l => simp [takeS, hn l rfl]
  obtain ⟨hne, l, no, A, c, hb, hr, hlc, hc, hA, hst⟩ := r
  have c0 := hb.cell 0
  have c1 := hb.cell 1
  have f1 := hb.frozen 1
  simp at c0 c1
  have HX := Lib.hid (rdr_no hne hb hr hlc hc hA)
  have HE := Lib.hid he
  unfold maxLen at hc
  cases no with
  | true =>
    clear hb hr hA hst hn he
    go_enter Try.func30, Try.ntmps30
    go_wp2_with (go_at_call 54; refine (size_yes _ _ hs).mono ?_; rintro e w' ⟨rfl, rfl⟩)
    go_ret2
    exact ⟨by rw [HE.out]; rfl, by rw [HE.out]; exact HX.out, grown_setCell _ _ _ _⟩
  | false =>
    have hlt : l.length < s := hn l (by simpa using hst)
    clear hb hr hA hst hn he
    go_enter Try.func30, Try.ntmps30
    go_wp2_with (go_at_call 54; refine (size_yes _ _ hs).mono ?_; rintro e w' ⟨rfl, rfl⟩)
    go_ret2
    exact ⟨by rw [HE.out]; rfl, by rw [HE.out]; exact HX.out, grown_setCell _ _ _ _⟩

theorem leval_drop {l : List UInt8} {j : Nat} (h : j < l.length) : leval (l.drop j) = l[j].toNat + 256 * leval (l.drop (j + 1)) := by
  rw [List.drop_eq_getElem_cons h]
  rfl

set_option maxHeartbeats 400000 in
theorem rtake_ok {w : World} {g : Nat} {h : Option Nat} {l : List UInt8} {s : Nat} (r : RdR w g h (some l)) (hs : IsSz s) (hn : s ≤ l.length) :
    Calls Try.prog 30 #[.pointer (some ⟨g, 0, none⟩), .int .i64 s] w (RTakeEnd w g h (some l) s) := by
  have hlo := (isSz_le hs).1
  have h8 := (isSz_le hs).2
  have he : takeS (some l) s = (leval (l.take s), 0, some (l.drop s)) := by simp [takeS, Nat.not_lt.2 hn]
  have htl : (l.take s).length = s := by rw [List.length_take]; omega
  obtain ⟨hne, l', no, A, c, hb, hr, hlc, hc, hA, hst⟩ := r
  cases no with
  | true => cases hst
  | false =>
    obtain rfl : l = l' := by simpa using hst
    have c0 := hb.cell 0
    have c1 := hb.cell 1
    have f0 := hb.frozen 0
    simp at c0 c1
    obtain ⟨ad, rfl, hcell⟩ := hr (by rw [bv_length]; omega)
    have hdl : (l.drop s).length = l.length - s := List.length_drop
    have hA2 := rdr_set hne hb (A := (some ad).map (·.add s)) (c := c - s) (l := l.drop s) (by rw [bv_drop]; exact hr.drop s) (by omega) (by omega) (map_add_block hA)
    have hA1 : c = s → RdR (w.setCell ⟨g, 0, none⟩ (.slice (some ad) (l.length - s) 0)) g h (some (l.drop s)) := fun e => by
      have hd : l.drop s = [] := List.drop_eq_nil_of_le (by omega)
      have := rdr_set hne hb (A := some ad) (c := 0) (l := l.drop s) (by rw [hd]; exact RV.nil _ _) (by rw [hd]; simp) (by simp) hA
      rwa [hdl] at this
    rw [hdl] at hA2
    have HX := Lib.hid (And.intro hcell (And.intro hA1 (And.intro hA2 (And.intro he htl))))
    unfold maxLen at hc
    clear hb hr hA hst hA1 hA2 hdl he htl hcell
    go_enter Try.func30, Try.ntmps30
    go_wp2_with (go_at_call 54; refine (size_yes _ _ hs).mono ?_; rintro e w' ⟨rfl, rfl⟩)
    go_loopg [6, 7] s (fun k n i wr => k ≤ s ∧ i = .int .i64 ((k : Int) - 1) ∧ n = .int .u64 (leval ((l.take s).drop k) : Nat) ∧ wr = w)
    case atStart => exact ⟨Nat.le_refl _, rfl, by rw [List.drop_eq_nil_of_le (by rw [HX.out.2.2.2.2]; exact Nat.le_refl _)]; rfl, rfl⟩
    case round =>
      obtain ⟨hk, rfl, rfl, rfl⟩ := hrel
      cases gk with
      | zero =>
        go_wp2_with fail
        · have hcs : c = s := by assumption
          go_ret2
          exact ⟨by rw [HX.out.2.2.2.1]; rfl, by rw [HX.out.2.2.2.1]; exact HX.out.2.1 hcs, grown_setCell _ _ _ _⟩
        · go_ret2
          exact ⟨by rw [HX.out.2.2.2.1]; rfl, by rw [HX.out.2.2.2.1]; exact HX.out.2.2.1, grown_setCell _ _ _ _⟩
      | succ j =>
        have hj : j < (l.take s).length := by rw [HX.out.2.2.2.2]; omega
        have hjl : j < l.length := by omega
        have hcj := HX.out.1 j (.int .u8 (l[j].toNat : Int)) (by rw [bv_get, List.getElem?_eq_getElem hjl]; rfl)
        have hld := leval_drop hj
        rw [List.getElem_take] at hld
        have hlt := leval_lt64 ((l.take s).drop j) (by rw [List.length_drop, HX.out.2.2.2.2]; omega)
        generalize leval ((l.take s).drop (j + 1)) = m at hld
        have hx256 := l[j].toNat_lt
        generalize l[j].toNat = x at hcj hld hx256
        rw [hld] at hlt
        have HL := Lib.hid (And.intro hld hlt)
        have hm1 : (256 : Int) * m + x ≤ 18446744073709551615 := by omega
        clear hld hlt hj
        go_wp2_with fail
        go_roundg j
        case measure => omega
        case rel => exact ⟨by omega, by go_num, by rw [HL.out.1]; go_num, rfl⟩
end Go.Proofs.Ytegoeagmadhpgaa

/- The document's reader: Row, Left; its row of bytes; Copy. -/
namespace Go.Proofs.Ytegoeagmadhpgaa
open Go.RowKit

def RRowEnd (w : World) (g : Nat) (h : Option Nat) (st : Option (List UInt8)) (e : Ending) (w' : World) : Prop :=
  ∃ v, e = .returned (.tuple #[v, .int .i64 ((rowS st).2.1 : Nat)]) ∧ OwnB 5 w' w.heap.size v (rowS st).1 ∧ RdR w' g h (rowS st).2.2 ∧ w.grownBy w' (some g)

theorem grown_drawn {a b : World} (h : Drawn a b) (row : Option Nat) : a.grownBy b row := grown_of_below (h.below _) row

set_option maxHeartbeats 1000000 in
theorem rrow_no {w : World} {g : Nat} {h : Option Nat} (r : RdR w g h none) :
    Calls Try.prog 32 #[.pointer (some ⟨g, 0, none⟩)] w (RRowEnd w g h none) := by
  have R := Lib.hid r
  obtain ⟨hne, l, no, A, c, hb, hr, hlc, hc, hA, hst⟩ := r
  cases no with
  | false => cases hst
  | true =>
    have c0 := hb.cell 0
    have c1 := hb.cell 1
    have f1 := hb.frozen 1
    simp at c0 c1
    have HX := Lib.hid (fun n : Nat => rdr_no (w := w.drewN n) hne hb (hr.drewN n) hlc hc hA)
    unfold maxLen at hc
    clear hb hr hA hst
    go_enter Try.func32, Try.ntmps32
    go_wp2_with fail
    go_quiet (fail)
    go_wp2
    go_ret2
    exact ⟨_, rfl, OwnB.nil _ _ _, HX.out nq, grown_trans (grown_drewN w nq _) (grown_setCell _ _ _ _)⟩

set_option maxHeartbeats 1000000 in
theorem rrow_nil {w : World} {g : Nat} {h : Option Nat} (r : RdR w g h (some [])) :
    Calls Try.prog 32 #[.pointer (some ⟨g, 0, none⟩)] w (RRowEnd w g h (some [])) := by
  have R := Lib.hid r
  obtain ⟨hne, l, no, A, c, hb, hr, hlc, hc, hA, hst⟩ := r
  cases no with
  | true => cases hst
  | false =>
    obtain rfl : [] = l := by simpa using hst
    have c0 := hb.cell 0
    have c1 := hb.cell 1
    have f1 := hb.frozen 1
    simp at c0 c1
    have HX := Lib.hid (fun n : Nat => rdr_no (w := w.drewN n) hne hb (hr.drewN n) hlc hc hA)
    unfold maxLen at hc
    clear hb hr hA hst
    go_enter Try.func32, Try.ntmps32
    go_wp2_with fail
    go_quiet (fail)
    go_wp2
    go_ret2
    exact ⟨_, rfl, OwnB.nil _ _ _, HX.out nq, grown_trans (grown_drewN w nq _) (grown_setCell _ _ _ _)⟩

set_option maxHeartbeats 1000000 in
theorem rrow_long {w : World} {g : Nat} {h : Option Nat} {b : UInt8} {l : List UInt8} (r : RdR w g h (some (b :: l))) (hl : l.length < b.toNat) :
    Calls Try.prog 32 #[.pointer (some ⟨g, 0, none⟩)] w (RRowEnd w g h (some (b :: l))) := by
  have hs : rowS (some (b :: l)) = ([], 4, none) := by simp [rowS, hl]
  obtain ⟨hne, l', no, A, c, hb, hr, hlc, hc, hA, hst⟩ := r
  cases no with
  | true => cases hst
  | false =>
    obtain rfl : b :: l = l' := by simpa using hst
    have c0 := hb.cell 0
    have c1 := hb.cell 1
    have f1 := hb.frozen 1
    simp only [List.getElem?_toArray, List.getElem?_cons_zero, List.getElem?_cons_succ] at c0 c1
    have hx := b.toNat_lt
    obtain ⟨ad, rfl, hcell⟩ := hr (by simp [bv])
    have cb := hcell 0 (.int .u8 (b.toNat : Int)) (by simp [bv])
    rw [add_zero] at cb
    have HX := Lib.hid (fun n : Nat => rdr_no (w := w.drewN n) hne hb (hr.drewN n) hlc hc hA)
    unfold maxLen at hc
    have HS := Lib.hid hs
    have hlen : (b :: l).length = l.length + 1 := rfl
    rw [hlen] at c0 hlc
    clear hb hr hA hst hs hcell hlen
    generalize b.toNat = x at *
    have h1 : ((l.length : Int) + 1 < 1) = False := by simp; omega
    go_enter Try.func32, Try.ntmps32
    go_wp2_with fail
    go_quiet (fail)
    go_wp2
    go_ret2
    refine ⟨.slice none 0 0, ?_, ?_, ?_, grown_trans (grown_drewN w nq _) (grown_setCell _ _ _ _)⟩
    · rw [HS.out]; rfl
    · rw [HS.out]; exact OwnB.nil _ _ _
    · rw [HS.out]; exact HX.out nq

theorem rleft_any {w : World} {g : Nat} {h : Option Nat} {st : Option (List UInt8)} (r : RdR w g h st) :
    Calls Try.prog 34 #[.pointer (some ⟨g, 0, none⟩)] w fun e w' => e = .returned (.int .i64 (leftS st : Nat)) ∧ w = w' := by
  obtain ⟨hne, l, no, A, c, hb, hr, hlc, hc, hA, hst⟩ := r
  have c0 := hb.cell 0
  have c1 := hb.cell 1
  simp at c0 c1
  have HST := Lib.hid hst
  clear hb hr hlc hc hA hst
  cases no
  all_goals
    go_enter Try.func34, Try.ntmps34
    go_wp2
    go_ret
    exact ⟨by rw [HST.out]; rfl, rfl⟩
end Go.Proofs.Ytegoeagmadhpgaa

/- The document's reader: Row where there is enough; its row of bytes; Copy. -/
namespace Go.Proofs.Ytegoeagmadhpgaa
open Go.RowKit

theorem rdr_rest {w : World} {g : Nat} {h : Option Nat} {b : UInt8} {l : List UInt8} {x c : Nat} {ad : Addr} (hne : some g ≠ h) (hb : Blk w g 58 #[.slice (some ad) (l.length + 1) c, .bool false]) (hr : RV w (some ad) (bv (b :: l)))
    (hlc : l.length + 1 ≤ c) (hc : c ≤ maxLen) (hA : ∀ a, some ad = some a → some a.block = h) (hx : x ≤ l.length) :
    (c = 1 + x → RdR (w.setCell ⟨g, 0, none⟩ (.slice (some ad) (l.length + 1 - (1 + x)) 0)) g h (some (l.drop x))) ∧
      RdR (w.setCell ⟨g, 0, none⟩ (.slice (some (ad.add (1 + x))) (l.length + 1 - (1 + x)) (c - (1 + x)))) g h (some (l.drop x)) := by
  have hdl : (l.drop x).length = l.length + 1 - (1 + x) := by rw [List.length_drop]; omega
  have hd : (b :: l).drop (1 + x) = l.drop x := by rw [Nat.add_comm, List.drop_succ_cons]
  refine ⟨fun e => ?_, ?_⟩
  · have hn : l.drop x = [] := List.drop_eq_nil_of_le (by omega)
    have := rdr_set hne hb (A := some ad) (c := 0) (l := l.drop x) (by rw [hn]; exact RV.nil _ _) (by rw [hn]; simp) (by simp) hA
    rwa [hdl] at this
  · have := rdr_set hne hb (A := (some ad).map (·.add (1 + x))) (c := c - (1 + x)) (l := l.drop x) (by rw [← hd, bv_drop]; exact hr.drop _) (by omega) (by omega) (map_add_block hA)
    rwa [hdl] at this

set_option maxRecDepth 100000 in
set_option maxHeartbeats 1000000 in
theorem rrow_ok {w : World} {g : Nat} {h : Option Nat} {b : UInt8} {l : List UInt8} (r : RdR w g h (some (b :: l))) (hl : b.toNat ≤ l.length) :
    Calls Try.prog 32 #[.pointer (some ⟨g, 0, none⟩)] w (RRowEnd w g h (some (b :: l))) := by
  have hs : rowS (some (b :: l)) = (l.take b.toNat, 0, some (l.drop b.toNat)) := by simp [rowS, Nat.not_lt.2 hl]
  have R := Lib.hid r
  obtain ⟨hne, l', no, A, c, hb, hr, hlc, hc, hA, hst⟩ := r
  cases no with
  | true => cases hst
  | false =>
    obtain rfl : b :: l = l' := by simpa using hst
    have c0 := hb.cell 0
    have c1 := hb.cell 1
    have f0 := hb.frozen 0
    simp only [List.getElem?_toArray, List.getElem?_cons_zero, List.getElem?_cons_succ] at c0 c1
    have hx := b.toNat_lt
    obtain ⟨ad, rfl, hcell⟩ := hr (by simp [bv])
    have cb := hcell 0 (.int .u8 (b.toNat : Int)) (by simp [bv])
    rw [add_zero] at cb
    have hcut := (hr.cut (k := 1) (cap := c) (by rw [bv_length]; exact hlc)).take b.toNat
    rw [← bv_drop, ← bv_take, List.drop_one, List.tail_cons] at hcut
    have hgr := hb.lt
    unfold maxLen at hc
    have HS := Lib.hid hs
    have hlen : (b :: l).length = l.length + 1 := rfl
    have htl : (l.take b.toNat).length = b.toNat := by rw [List.length_take]; omega
    rw [hlen] at c0 hlc
    have HX := Lib.hid (And.intro hcut (And.intro hb (And.intro hr (And.intro hA (And.intro hne htl)))))
    clear hb hr hA hst hs hcell hlen hcut htl hne
    generalize hbx : b.toNat = x at *
    generalize hty : l.take x = y at HX HS
    have HXY := Lib.hid (And.intro hbx hty)
    clear hbx hty
    have h1 : ((l.length : Int) + 1 < 1) = False := by simp; omega
    have h2 : decide ((l.length : Int) < (x : Int)) = false := by simp; omega
    have hyx : y.length = 1 + x - 1 := by have := HX.out.2.2.2.2.2; omega
    have hy2 : ([] : List UInt8).length + y.length ≤ 140737488355328 := by simp; omega
    have HYL := Lib.hid (And.intro hyx hy2)
    clear hyx hy2
    by_cases hc1 : c = 1
    · have hrv : ∀ n, RV (w.drewN n) (some ad) (bv y) := fun n => by have := HX.out.1; rw [if_pos hc1] at this; exact this.drewN n
      have HRV := Lib.hid hrv
      clear hrv
      go_enter Try.func32, Try.ntmps32
      go_wp2_with fail
      go_quiet (fail)
      go_wp2_with (at_builtin; refine wpList_appB _ rfl _ _ 22 rfl w.heap.size 5 Try.underlying22 u8info (.slice none 0 0) [] rfl (OwnB.nil _ _ _) _ _ _ y rfl HYL.out.1 (HRV.out _) HYL.out.2 (Nat.le_refl _) ?_)
      intro v w1 hown hg _
      have hb : Below w.heap.size w w1 := ((Drawn.mk w nq).below _).trans (grown_none hg)
      have d0 := (hb.cell (p := ⟨g, 0, none⟩) hgr).trans c0
      have d1 := (hb.cell (p := ⟨g, 1, none⟩) hgr).trans c1
      have e0 := (hb.frozen (p := ⟨g, 0, none⟩) hgr).trans f0
      have hrest := rdr_rest HX.out.2.2.2.2.1 (HX.out.2.1.below hb hgr) (HX.out.2.2.1.below hb) hlc (by unfold maxLen; exact hc) HX.out.2.2.2.1 hl
      have d2 := (hb.cell (p := ad) (HX.out.2.2.1.lt rfl (by simp [bv]))).trans cb
      have HE := Lib.hid (And.intro (show OwnB 5 w1 w.heap.size v y from hown) (And.intro hb hrest))
      clear hown hg hb hrest c0 c1 f0 cb
      have hxc : c = 1 + x ∨ ¬ c = 1 + x := by omega
      go_wp2
      all_goals
        go_ret2
        refine ⟨v, by rw [HS.out]; rfl, by rw [HS.out]; exact HE.out.1.setOther hgr _, ?_, grown_trans (grown_of_below HE.out.2.1 _) (grown_setCell _ _ _ _)⟩
        rw [HS.out]
        first
          | exact HE.out.2.2.1 ‹_›
          | exact HE.out.2.2.1 (by omega)
          | exact HE.out.2.2.2
    · have hrv : ∀ n, RV (w.drewN n) (some (ad.add 1)) (bv y) := fun n => by have := HX.out.1; rw [if_neg hc1] at this; exact this.drewN n
      have HRV := Lib.hid hrv
      clear hrv
      go_enter Try.func32, Try.ntmps32
      go_wp2_with fail
      go_quiet (fail)
      go_wp2_with (at_builtin; refine wpList_appB _ rfl _ _ 22 rfl w.heap.size 5 Try.underlying22 u8info (.slice none 0 0) [] rfl (OwnB.nil _ _ _) _ _ _ y rfl HYL.out.1 (HRV.out _) HYL.out.2 (Nat.le_refl _) ?_)
      intro v w1 hown hg _
      have hb : Below w.heap.size w w1 := ((Drawn.mk w nq).below _).trans (grown_none hg)
      have d0 := (hb.cell (p := ⟨g, 0, none⟩) hgr).trans c0
      have d1 := (hb.cell (p := ⟨g, 1, none⟩) hgr).trans c1
      have e0 := (hb.frozen (p := ⟨g, 0, none⟩) hgr).trans f0
      have hrest := rdr_rest HX.out.2.2.2.2.1 (HX.out.2.1.below hb hgr) (HX.out.2.2.1.below hb) hlc (by unfold maxLen; exact hc) HX.out.2.2.2.1 hl
      have d2 := (hb.cell (p := ad) (HX.out.2.2.1.lt rfl (by simp [bv]))).trans cb
      have HE := Lib.hid (And.intro (show OwnB 5 w1 w.heap.size v y from hown) (And.intro hb hrest))
      clear hown hg hb hrest c0 c1 f0 cb
      have hxc : c = 1 + x ∨ ¬ c = 1 + x := by omega
      go_wp2
      all_goals
        go_ret2
        refine ⟨v, by rw [HS.out]; rfl, by rw [HS.out]; exact HE.out.1.setOther hgr _, ?_, grown_trans (grown_of_below HE.out.2.1 _) (grown_setCell _ _ _ _)⟩
        rw [HS.out]
        first
          | exact HE.out.2.2.1 ‹_›
          | exact HE.out.2.2.1 (by omega)
          | exact HE.out.2.2.2
end Go.Proofs.Ytegoeagmadhpgaa

/- The document's reader: Take, Row, of whatever is left. -/
namespace Go.Proofs.Ytegoeagmadhpgaa
open Go.RowKit

theorem rrow_any {w : World} {g : Nat} {h : Option Nat} {st : Option (List UInt8)} (r : RdR w g h st) :
    Calls Try.prog 32 #[.pointer (some ⟨g, 0, none⟩)] w (RRowEnd w g h st) := by
  cases st with
  | none => exact rrow_no r
  | some l =>
    cases l with
    | nil => exact rrow_nil r
    | cons b l =>
      by_cases hl : l.length < b.toNat
      · exact rrow_long r hl
      · exact rrow_ok r (Nat.not_lt.1 hl)
theorem rtake_any {w : World} {g : Nat} {h : Option Nat} {st : Option (List UInt8)} {s : Nat} (r : RdR w g h st) (hs : IsSz s) :
    Calls Try.prog 30 #[.pointer (some ⟨g, 0, none⟩), .int .i64 s] w (RTakeEnd w g h st s) := by
  cases st with
  | none => exact rtake_no r hs (fun _ h => by cases h)
  | some l =>
    by_cases hl : l.length < s
    · exact rtake_no r hs (fun l' h => by injection h with h; subst h; exact hl)
    · exact rtake_ok r hs (Nat.not_lt.1 hl)
end Go.Proofs.Ytegoeagmadhpgaa
