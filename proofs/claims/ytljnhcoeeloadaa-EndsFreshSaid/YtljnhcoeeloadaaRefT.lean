/- The document's reader: Row where there is enough; its row of bytes; Copy. -/
import Derived.Test.YtljnhcoeeloadaaRefS
set_option linter.unusedVariables false
set_option linter.unusedSimpArgs false
namespace Go.Proofs.Ytljnhcoeeloadaa
open Go.RowKit

theorem rdr_rest {w : World} {g : Nat} {h : Option Nat} {b : UInt8} {l : List UInt8} {x c : Nat} {ad : Addr} (hne : some g ≠ h) (hb : Blk w g 29 #[.slice (some ad) (l.length + 1) c, .bool false]) (hr : RV w (some ad) (bv (b :: l)))
    (hlc : l.length + 1 ≤ c) (hc : c ≤ maxLen) (hA : ∀ a, some ad = some a → some a.block = h) (hx : x ≤ l.length) :
    (c = 1 + x → RdR (w.setCell ⟨g, 0, none⟩ (.slice (some ad) (l.length + 1 - (1 + x)) 0)) g h (some (l.drop x))) ∧
      RdR (w.setCell ⟨g, 0, none⟩ (.slice (some (ad.add (1 + x))) (l.length + 1 - (1 + x)) (c - (1 + x)))) g h (some (l.drop x)) := by
  have hdl : (l.drop x).length = l.length + 1 - (1 + x) := by rw [List.length_drop]; omega
  have hd : (b :: l).drop (1 + x) = l.drop x := by rw [Nat.add_comm, List.drop_succ_cons]
  refine ⟨fun e => ?_, ?_⟩
  · have hn : l.drop x = [] := List.drop_eq_nil_of_le (by omega)
    have := rdr_set hne hb (A := some ad) (c := 0) (l := l.drop x) (by rw [hn]; exact RV.nil _ _) (by rw [hn]; simp) (by simp) hA
    rwa [hdl] at this
  · have := rdr_set hne hb (A := (some ad).map (·.add (1 + x))) (c := c - (1 + x)) (l := l.drop x) (by rw [← hd, bv_drop]; exact hr.drop _) (by omega) (by omega) (map_add_block hA)
    rwa [hdl] at this

set_option maxRecDepth 100000 in
set_option maxHeartbeats 1000000 in
theorem rrow_ok {w : World} {g : Nat} {h : Option Nat} {b : UInt8} {l : List UInt8} (r : RdR w g h (some (b :: l))) (hl : b.toNat ≤ l.length) :
    Calls Try.prog 12 #[.pointer (some ⟨g, 0, none⟩)] w (RRowEnd w g h (some (b :: l))) := by
  have hs : rowS (some (b :: l)) = (l.take b.toNat, 0, some (l.drop b.toNat)) := by simp [rowS, Nat.not_lt.2 hl]
  have R := Lib.hid r
  obtain ⟨hne, l', no, A, c, hb, hr, hlc, hc, hA, hst⟩ := r
  cases no with
  | true => cases hst
  | false =>
    obtain rfl : b :: l = l' := by simpa using hst
    have c0 := hb.cell 0
    have c1 := hb.cell 1
    have f0 := hb.frozen 0
    simp only [List.getElem?_toArray, List.getElem?_cons_zero, List.getElem?_cons_succ] at c0 c1
    have hx := b.toNat_lt
    obtain ⟨ad, rfl, hcell⟩ := hr (by simp [bv])
    have cb := hcell 0 (.int .u8 (b.toNat : Int)) (by simp [bv])
    rw [add_zero] at cb
    have hcut := (hr.cut (k := 1) (cap := c) (by rw [bv_length]; exact hlc)).take b.toNat
    rw [← bv_drop, ← bv_take, List.drop_one, List.tail_cons] at hcut
    have hgr := hb.lt
    unfold maxLen at hc
    have HS := Lib.hid hs
    have hlen : (b :: l).length = l.length + 1 := rfl
    have htl : (l.take b.toNat).length = b.toNat := by rw [List.length_take]; omega
    rw [hlen] at c0 hlc
    have HX := Lib.hid (And.intro hcut (And.intro hb (And.intro hr (And.intro hA (And.intro hne htl)))))
    clear hb hr hA hst hs hcell hlen hcut htl hne
    generalize hbx : b.toNat = x at *
    generalize hty : l.take x = y at HX HS
    have HXY := Lib.hid (And.intro hbx hty)
    clear hbx hty
    have h1 : ((l.length : Int) + 1 < 1) = False := by simp; omega
    have h2 : decide ((l.length : Int) < (x : Int)) = false := by simp; omega
    have hyx : y.length = 1 + x - 1 := by have := HX.out.2.2.2.2.2; omega
    have hy2 : ([] : List UInt8).length + y.length ≤ 140737488355328 := by simp; omega
    have HYL := Lib.hid (And.intro hyx hy2)
    clear hyx hy2
    by_cases hc1 : c = 1
    · have hrv : ∀ n, RV (w.drewN n) (some ad) (bv y) := fun n => by have := HX.out.1; rw [if_pos hc1] at this; exact this.drewN n
      have HRV := Lib.hid hrv
      clear hrv
      go_enter Try.func12, Try.ntmps12
      go_wp2_with fail
      go_quiet (fail)
      go_wp2_with (at_builtin; refine wpList_appB _ rfl _ _ 22 rfl w.heap.size 5 Try.underlying22 u8info (.slice none 0 0) [] rfl (OwnB.nil _ _ _) _ _ _ y rfl HYL.out.1 (HRV.out _) HYL.out.2 (Nat.le_refl _) ?_)
      intro v w1 hown hg _
      have hb : Below w.heap.size w w1 := ((Drawn.mk w nq).below _).trans (grown_none hg)
      have d0 := (hb.cell (p := ⟨g, 0, none⟩) hgr).trans c0
      have d1 := (hb.cell (p := ⟨g, 1, none⟩) hgr).trans c1
      have e0 := (hb.frozen (p := ⟨g, 0, none⟩) hgr).trans f0
      have hrest := rdr_rest HX.out.2.2.2.2.1 (HX.out.2.1.below hb hgr) (HX.out.2.2.1.below hb) hlc (by unfold maxLen; exact hc) HX.out.2.2.2.1 hl
      have d2 := (hb.cell (p := ad) (HX.out.2.2.1.lt rfl (by simp [bv]))).trans cb
      have HE := Lib.hid (And.intro (show OwnB 5 w1 w.heap.size v y from hown) (And.intro hb hrest))
      clear hown hg hb hrest c0 c1 f0 cb
      have hxc : c = 1 + x ∨ ¬ c = 1 + x := by omega
      go_wp2
      all_goals
        go_ret2
        refine ⟨v, by rw [HS.out]; rfl, by rw [HS.out]; exact HE.out.1.setOther hgr _, ?_, grown_trans (grown_of_below HE.out.2.1 _) (grown_setCell _ _ _ _)⟩
        rw [HS.out]
        first
          | exact HE.out.2.2.1 ‹_›
          | exact HE.out.2.2.1 (by omega)
          | exact HE.out.2.2.2
    · have hrv : ∀ n, RV (w.drewN n) (some (ad.add 1)) (bv y) := fun n => by have := HX.out.1; rw [if_neg hc1] at this; exact this.drewN n
      have HRV := Lib.hid hrv
      clear hrv
      go_enter Try.func12, Try.ntmps12
      go_wp2_with fail
      go_quiet (fail)
      go_wp2_with (at_builtin; refine wpList_appB _ rfl _ _ 22 rfl w.heap.size 5 Try.underlying22 u8info (.slice none 0 0) [] rfl (OwnB.nil _ _ _) _ _ _ y rfl HYL.out.1 (HRV.out _) HYL.out.2 (Nat.le_refl _) ?_)
      intro v w1 hown hg _
      have hb : Below w.heap.size w w1 := ((Drawn.mk w nq).below _).trans (grown_none hg)
      have d0 := (hb.cell (p := ⟨g, 0, none⟩) hgr).trans c0
      have d1 := (hb.cell (p := ⟨g, 1, none⟩) hgr).trans c1
      have e0 := (hb.frozen (p := ⟨g, 0, none⟩) hgr).trans f0
      have hrest := rdr_rest HX.out.2.2.2.2.1 (HX.out.2.1.below hb hgr) (HX.out.2.2.1.below hb) hlc (by unfold maxLen; exact hc) HX.out.2.2.2.1 hl
      have d2 := (hb.cell (p := ad) (HX.out.2.2.1.lt rfl (by simp [bv]))).trans cb
      have HE := Lib.hid (And.intro (show OwnB 5 w1 w.heap.size v y from hown) (And.intro hb hrest))
      clear hown hg hb hrest c0 c1 f0 cb
      have hxc : c = 1 + x ∨ ¬ c = 1 + x := by omega
      go_wp2
      all_goals
        go_ret2
        refine ⟨v, by rw [HS.out]; rfl, by rw [HS.out]; exact HE.out.1.setOther hgr _, ?_, grown_trans (grown_of_below HE.out.2.1 _) (grown_setCell _ _ _ _)⟩
        rw [HS.out]
        first
          | exact HE.out.2.2.1 ‹_›
          | exact HE.out.2.2.1 (by omega)
          | exact HE.out.2.2.2
end Go.Proofs.Ytljnhcoeeloadaa
