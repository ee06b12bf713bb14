/- EndsTakes: the walk. -/
import Derived.Test.YtljnhcoeeloadaaWorks01
import Derived.Test.YtljnhcoeeloadaaPutAny
import Derived.Test.YtljnhcoeeloadaaRefT
import Derived.Test.YtljnhcoeeloadaaCopy
set_option linter.unusedVariables false
set_option linter.unusedSimpArgs false
namespace Go.Proofs.Ytljnhcoeeloadaa
open Go.RowKit

theorem rrow_any {w : World} {g : Nat} {h : Option Nat} {st : Option (List UInt8)} (r : RdR w g h st) :
    Calls Try.prog 12 #[.pointer (some ⟨g, 0, none⟩)] w (RRowEnd w g h st) := by
  cases st with
  | none => exact rrow_no r
  | some l =>
    cases l with
    | nil => exact rrow_nil r
    | cons b l =>
      by_cases hl : l.length < b.toNat
      · exact rrow_long r hl
      · exact rrow_ok r (Nat.not_lt.1 hl)
theorem rtake_any {w : World} {g : Nat} {h : Option Nat} {st : Option (List UInt8)} {s : Nat} (r : RdR w g h st) (hs : IsSz s) :
    Calls Try.prog 17 #[.pointer (some ⟨g, 0, none⟩), .int .i64 s] w (RTakeEnd w g h st s) := by
  cases st with
  | none => exact rtake_no r hs (fun _ h => by cases h)
  | some l =>
    by_cases hl : l.length < s
    · exact rtake_no r hs (fun l' h => by injection h with h; subst h; exact hl)
    · exact rtake_ok r hs (Nat.not_lt.1 hl)

open Classical in
/-- What Take answers, whatever the size. -/
noncomputable def takeI (st : Option (List UInt8)) (s : Int) : Nat × Nat × Option (List UInt8) := if IsSz s then takeS st s.toNat else (0, 2, st)
def TakeIEnd (w : World) (g : Nat) (h : Option Nat) (r : Nat × Nat × Option (List UInt8)) (e : Ending) (w' : World) : Prop :=
  e = .returned (.tuple #[.int .u64 (r.1 : Nat), .int .i64 (r.2.1 : Nat)]) ∧ Rd w' g h r.2.2 ∧ w.grownBy w' (some g)
def RTakeIEnd (w : World) (g : Nat) (h : Option Nat) (r : Nat × Nat × Option (List UInt8)) (e : Ending) (w' : World) : Prop :=
  e = .returned (.tuple #[.int .u64 (r.1 : Nat), .int .i64 (r.2.1 : Nat)]) ∧ RdR w' g h r.2.2 ∧ w.grownBy w' (some g)
theorem take_int {w : World} {g : Nat} {h : Option Nat} {st : Option (List UInt8)} {s : Int} (r : Rd w g h st) :
    Calls Try.prog 16 #[.pointer (some ⟨g, 0, none⟩), .int .i64 s] w (TakeIEnd w g h (takeI st s)) := by
  unfold takeI
  by_cases hs : IsSz s
  · rw [if_pos hs]
    obtain ⟨m, rfl⟩ := isSz_nat hs
    exact take_any r hs
  · rw [if_neg hs]
    exact (take_bad r hs).mono fun e w' ⟨he, hw⟩ => ⟨he, hw ▸ r, hw ▸ World.grownBy.refl _ _⟩
theorem rtake_int {w : World} {g : Nat} {h : Option Nat} {st : Option (List UInt8)} {s : Int} (r : RdR w g h st) :
    Calls Try.prog 17 #[.pointer (some ⟨g, 0, none⟩), .int .i64 s] w (RTakeIEnd w g h (takeI st s)) := by
  unfold takeI
  by_cases hs : IsSz s
  · rw [if_pos hs]
    obtain ⟨m, rfl⟩ := isSz_nat hs
    exact rtake_any r hs
  · rw [if_neg hs]
    exact (rtake_bad hs).mono fun e w' ⟨he, hw⟩ => ⟨he, hw ▸ r, hw ▸ World.grownBy.refl _ _⟩

/-- A reader of the document's, made over bytes of the call's own. -/
theorem rdr_new {w : World} {base : Nat} {A : Option Addr} {c : Nat} {xs : List UInt8} {e : TypeId} (hown : OwnB e w base (.slice A xs.length c) xs) :
    RdR (w.alloc (.cells #[.slice A xs.length c, .bool false] 29)) w.heap.size ((Value.slice A xs.length c).ownBlock) (some xs) := by
  obtain ⟨A', c', hv, hr, h1, h2, h3⟩ := hown.slice
  injection hv with e1 _ e2
  subst e1
  subst e2
  refine ⟨fun hk => ?_, xs, false, A, c, Blk.new _ _ _, hr.alloc _, h1, h2, h3, rfl⟩
  have := (hown.blk hk.symm).2
  omega

/-- Both readers stand alike, apart from one another, in memory that was not there. -/
def Pair (B : Nat) (w : World) (g : Nat) (h : Option Nat) (g2 : Nat) (h2 : Option Nat) (st : Option (List UInt8)) : Prop :=
  Rd w g h st ∧ RdR w g2 h2 st ∧ g ≠ g2 ∧ some g2 ≠ h ∧ some g ≠ h2 ∧ B ≤ g ∧ B ≤ g2

theorem own_keptAt {e : TypeId} {w w' : World} {base k : Nat} {v : Value} {xs : List UInt8} (h : OwnB e w base v xs) (hg : w.grownBy w' (some k)) (hk : k < base) : OwnB e w' base v xs :=
  h.kept hg (by
    cases hv : v.ownBlock with
    | none => exact .inl rfl
    | some m =>
      refine .inr (fun e => ?_)
      have := (h.blk hv).1
      injection e with e
      omega)
theorem Pair.drawn {B : Nat} {w w' : World} {g : Nat} {h : Option Nat} {g2 : Nat} {h2 : Option Nat} {st : Option (List UInt8)} (p : Pair B w g h g2 h2 st) (hd : Drawn w w') : Pair B w' g h g2 h2 st :=
  ⟨p.1.below (hd.below _), p.2.1.below (hd.below _), p.2.2⟩
/-- One after the other: both stand alike again. -/
theorem Pair.both {B : Nat} {w w1 w2 : World} {g : Nat} {h : Option Nat} {g2 : Nat} {h2 : Option Nat} {st st' : Option (List UInt8)} (p : Pair B w g h g2 h2 st) (r1 : Rd w1 g h st') (k1 : w.grownBy w1 (some g)) (r2 : RdR w2 g2 h2 st') (k2 : w1.grownBy w2 (some g2)) : Pair B w2 g h g2 h2 st' :=
  ⟨r1.grown k2 (fun e => p.2.2.1 e.symm) p.2.2.2.1, r2, p.2.2⟩
theorem Pair.mid {B : Nat} {w w1 : World} {g : Nat} {h : Option Nat} {g2 : Nat} {h2 : Option Nat} {st : Option (List UInt8)} (p : Pair B w g h g2 h2 st) (k1 : w.grownBy w1 (some g)) : RdR w1 g2 h2 st :=
  p.2.1.grown k1 p.2.2.1 p.2.2.2.2.1

set_option maxRecDepth 100000 in
set_option maxHeartbeats 2000000 in
theorem walkEndsTakes (w : World) (A : Option Addr) (c : Nat) (xs : List UInt8) (hr : RV w A (bv xs)) (hR : xs.length ≤ 140737488351232) (A1 : Option Addr) (c1 : Nat) (zs : List Int) (hr1 : RV w A1 (zs.map (Value.int .i64))) (hw1 : ∀ n ∈ zs, (Lit.int .i64 n).wf = true) (hR1 : zs.length * 8 ≤ 140737488351232) :
    Calls Try.prog 3 #[.slice A xs.length c, .slice A1 zs.length c1] w fun e w' => e = .returned (.bool true) ∧ Below w.heap.size w w' := by
  have HR := Lib.hid (And.intro hr (And.intro hr1 (show xs.length ≤ 140737488355328 by omega)))
  clear hr hr1 hw1
  go_enter Try.func3, Try.ntmps3
  go_wp2_with fail
  refine (new_any w A c xs HR.out.1 HR.out.2.2).mono ?_
  rintro e w1 ⟨g, h, rfl, hrd, hb1, hg, hgs, hh⟩
  have H1 := Lib.hid (And.intro hrd (And.intro hb1 (And.intro hg (And.intro hgs hh))))
  clear hrd hb1 hh hg hgs
  go_wp2_with fail
  refine (copy_any w1 A c xs (HR.out.1.below H1.out.2.1) HR.out.2.2).mono ?_
  rintro e w2 ⟨v2, rfl, ho2, hb2⟩
  obtain ⟨A2, c2, rfl, _, _, _, _⟩ := ho2.slice
  have H2 := Lib.hid (And.intro ho2 hb2)
  clear ho2 hb2
  go_wp2_with fail
  have hpair : Pair w.heap.size (w2.alloc (.cells #[.slice A2 xs.length c2, .bool false] 29)) g h w2.heap.size ((Value.slice A2 xs.length c2).ownBlock) (some xs) := by
    obtain ⟨hrd, hb1, hg, hgs, hh⟩ := H1.out
    obtain ⟨ho2, hb2⟩ := H2.out
    have hs := hb2.size
    have hs1 := hb1.size
    refine ⟨(hrd.below hb2).below ((Below.refl _ _).alloc (Nat.le_refl _) _), rdr_new ho2, by omega, fun e => ?_, fun e => ?_, hg, by omega⟩
    · have := (hh _ e.symm).2
      omega
    · have := (ho2.blk e.symm).1
      omega
  have hbelow : Below w.heap.size w (w2.alloc (.cells #[.slice A2 xs.length c2, .bool false] 29)) :=
    (below_then H1.out.2.1 H1.out.2.1.size H2.out.2).alloc (Nat.le_trans H1.out.2.1.size H2.out.2.size) _
  have H3 := Lib.hid (And.intro hpair hbelow)
  clear hpair hbelow
  generalize hh2 : (Value.slice A2 xs.length c2).ownBlock = h2 at H3
  clear hh2
  generalize w2.heap.size = g2 at *
  clear H2
  go_loopg [7] (zs.length) (fun k i wr => ∃ (j : Nat) (st : Option (List UInt8)), j + k = zs.length ∧ i = .int .i64 j ∧ Pair w.heap.size wr g h g2 h2 st ∧ Below w.heap.size w wr)
  case atStart => exact ⟨0, some xs, by omega, rfl, H3.out.1, H3.out.2⟩
  case round =>
    obtain ⟨j, st, hj, rfl, hp, hb⟩ := hrel
    have HX := Lib.hid (And.intro hj (And.intro hp hb))
    clear hj hp hb
    have HEX := Lib.hid (show ∀ W : World, Below w.heap.size w W → ∀ (e : Ending) (W' : World), e = .returned (.bool true) ∧ Below W.heap.size W W' → e = .returned (.bool true) ∧ Below w.heap.size w W' from fun W hW e W' ⟨he, hb⟩ => ⟨he, below_then hW hW.size hb⟩)
    by_cases hlt : j < zs.length ∧ j < 60
    · obtain ⟨hlt, h60⟩ := hlt
      obtain ⟨ad, rfl, hcell⟩ := (HR.out.2.1.below HX.out.2.2).at_ (k := j) (by rw [List.length_map]; exact hlt)
      have hcells : ∀ W, Below w.heap.size w W → W.cell? (ad.add j) = some (.int .i64 zs[j]) := fun W hW => by
        obtain ⟨a, e, hc⟩ := (HR.out.2.1.below hW).at_ (k := j) (by rw [List.length_map]; exact hlt)
        obtain rfl := Option.some.inj e
        rw [hc, List.getElem_map]
      rw [List.getElem_map] at hcell
      generalize zs[j] = z at hcell hcells
      have HC := Lib.hid hcells
      clear hcells
      by_cases hz : z = 0
      · subst hz
        go_wp2_with fail
        refine (row_any HX.out.2.1.1).mono ?_
        rintro e w1 ⟨v1, rfl, ho1, hrd1, hg1⟩
        generalize hq : rowS st = q at *
        have Y1 := Lib.hid (And.intro hq (And.intro ho1 (And.intro hrd1 hg1)))
        clear hq ho1 hrd1 hg1
        go_wp2_with fail
        refine (rrow_any (HX.out.2.1.mid Y1.out.2.2.2)).mono ?_
        rintro e w2 ⟨v2, rfl, ho2, hrd2, hg2⟩
        rw [Y1.out.1] at ho2 hrd2 ⊢
        have Y2 := Lib.hid (And.intro ho2 (And.intro hrd2 hg2))
        clear ho2 hrd2 hg2
        have hp2 := HX.out.2.1.both Y1.out.2.2.1 Y1.out.2.2.2 Y2.out.2.1 Y2.out.2.2
        have ho1 := own_keptAt Y1.out.2.1 Y2.out.2.2 HX.out.2.1.2.1.lt
        have hb2 : Below w.heap.size w w2 := below_grown (below_grown HX.out.2.2 Y1.out.2.2.2 HX.out.2.2.size HX.out.2.1.2.2.2.2.2.1) Y2.out.2.2 (Nat.le_trans HX.out.2.2.size Y1.out.2.2.2.size) HX.out.2.1.2.2.2.2.2.2
        have Y3 := Lib.hid (And.intro hp2 (And.intro ho1 hb2))
        clear hp2 ho1 hb2
        go_wp2_with fail
        refine (same_own w2 _ _ v1 v2 q.1 Y3.out.2.1 Y2.out.1).mono ?_
        rintro e w3 ⟨rfl, hd3⟩
        have Y4 := Lib.hid hd3
        clear hd3
        go_wp2_with fail
        refine (left_any (Y3.out.1.drawn Y4.out).1).mono ?_
        rintro e w4 ⟨rfl, rfl⟩
        go_wp2_with fail
        refine (rleft_any (Y3.out.1.drawn Y4.out).2.1).mono ?_
        rintro e w4 ⟨rfl, rfl⟩
        go_wp2_with fail
        go_roundg (zs.length - (j + 1))
        case measure => have := HX.out.1; omega
        case rel => exact ⟨j + 1, q.2.2, by have := HX.out.1; omega, by go_num, Y3.out.1.drawn Y4.out, Y3.out.2.2.trans (Y4.out.below _)⟩
      · have hz0 : (z == 0) = false := by simpa using hz
        have HZ := Lib.hid hz
        clear hz
        go_wp2_with fail
        refine (take_int (s := z) HX.out.2.1.1).mono ?_
        rintro e w1 ⟨rfl, hrd1, hg1⟩
        generalize hq : takeI st z = q at *
        have Y1 := Lib.hid (And.intro hq (And.intro hrd1 hg1))
        clear hq hrd1 hg1
        have hb1 : Below w.heap.size w w1 := below_grown HX.out.2.2 Y1.out.2.2 HX.out.2.2.size HX.out.2.1.2.2.2.2.2.1
        have hcell1 := HC.out w1 hb1
        have HB1 := Lib.hid hb1
        clear hb1
        go_wp2_with fail
        refine (rtake_int (s := z) (HX.out.2.1.mid Y1.out.2.2)).mono ?_
        rintro e w2 ⟨rfl, hrd2, hg2⟩
        rw [Y1.out.1] at hrd2 ⊢
        have hp2 := HX.out.2.1.both Y1.out.2.1 Y1.out.2.2 hrd2 hg2
        have hb2 : Below w.heap.size w w2 := below_grown HB1.out hg2 HB1.out.size HX.out.2.1.2.2.2.2.2.2
        have Y3 := Lib.hid (And.intro hp2 hb2)
        clear hp2 hb2 hrd2 hg2
        go_wp2_with fail
        refine (left_any Y3.out.1.1).mono ?_
        rintro e w4 ⟨rfl, rfl⟩
        go_wp2_with fail
        refine (rleft_any Y3.out.1.2.1).mono ?_
        rintro e w4 ⟨rfl, rfl⟩
        go_wp2_with fail
        go_roundg (zs.length - (j + 1))
        case measure => have := HX.out.1; omega
        case rel => exact ⟨j + 1, q.2.2, by have := HX.out.1; omega, by go_num, Y3.out.1, Y3.out.2⟩
    · have hdone : ¬ ((j : Int) < zs.length) ∨ ¬ ((j : Int) < 60) := by omega
      rcases hdone with h1 | h1
      · go_wp2_with (go_at_call 18; refine (works_any _).mono ?_; rintro e w5 ⟨rfl, hb5⟩; have H5 := Lib.hid hb5; clear hb5)
        go_ret
        exact HEX.out _ HX.out.2.2 _ _ ⟨rfl, H5.out⟩
      · by_cases h2 : (j : Int) < zs.length
        all_goals
          go_wp2_with (go_at_call 18; refine (works_any _).mono ?_; rintro e w5 ⟨rfl, hb5⟩; have H5 := Lib.hid hb5; clear hb5)
          go_ret
          exact HEX.out _ HX.out.2.2 _ _ ⟨rfl, H5.out⟩
end Go.Proofs.Ytljnhcoeeloadaa
