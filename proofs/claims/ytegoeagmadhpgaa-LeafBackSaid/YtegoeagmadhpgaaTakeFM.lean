import Derived.Deep.RegionHeld3
import Derived.Test.YtegoeagmadhpgaaMPlain
import Derived.Test.YtegoeagmadhpgaaCloneM
import Derived.Test.YtegoeagmadhpgaaMKeyG
import Derived.Test.YtegoeagmadhpgaaMTake
set_option linter.unusedVariables false
set_option linter.unusedSimpArgs false
/- Layer 15: what stands behind a fact's key: contract. -/
namespace Go.Proofs.Ytegoeagmadhpgaa
open Go.RowKit

theorem Blk.set5 {w : World} {g : Nat} {t : TypeId} {a b c d e : Value} (h : Blk w g t #[a, b, c, d, e]) (a' b' c' d' e' : Value) :
    Blk (((((w.setCell ⟨g, 0, none⟩ a').setCell ⟨g, 1, none⟩ b').setCell ⟨g, 2, none⟩ c').setCell ⟨g, 3, none⟩ d').setCell ⟨g, 4, none⟩ e') g t #[a', b', c', d', e'] := by
  have := ((((h.set_ 0 a').set_ 1 b').set_ 2 c').set_ 3 d').set_ 4 e'
  simpa using this
theorem grown_set5 {w w2 : World} {row : Option Nat} (h : w.grownBy w2 row) {R : Nat} (hR : w.heap.size ≤ R) (a b c d e : Value) :
    w.grownBy (((((w2.setCell ⟨R, 0, none⟩ a).setCell ⟨R, 1, none⟩ b).setCell ⟨R, 2, none⟩ c).setCell ⟨R, 3, none⟩ d).setCell ⟨R, 4, none⟩ e) row :=
  grown_new_set (grown_set4 h hR a b c d) hR e
theorem rd_set5 {w : World} {g : Nat} {h : Option Nat} {st : Option (List UInt8)} (r : Rd w g h st) {R : Nat} (hg : g ≠ R) (hh : ∀ k, h = some k → k ≠ R) (a b c d e : Value) :
    Rd (((((w.setCell ⟨R, 0, none⟩ a).setCell ⟨R, 1, none⟩ b).setCell ⟨R, 2, none⟩ c).setCell ⟨R, 3, none⟩ d).setCell ⟨R, 4, none⟩ e) g h st :=
  rd_far1 (rd_set4 r hg hh a b c d) hg hh e
theorem ownB5 {e0 : TypeId} {w : World} {base : Nat} {v : Value} {xs : List UInt8} (h : OwnB e0 w base v xs) {R : Nat} (hR : R < base) (a b c d e : Value) :
    OwnB e0 (((((w.setCell ⟨R, 0, none⟩ a).setCell ⟨R, 1, none⟩ b).setCell ⟨R, 2, none⟩ c).setCell ⟨R, 3, none⟩ d).setCell ⟨R, 4, none⟩ e) base v xs :=
  ((((h.setOther hR a).setOther hR b).setOther hR c).setOther hR d).setOther hR e
/-- Behind a key: a fact, an error, what is left. -/
def tkF (k : Ky) (st : Option (List UInt8)) : Fct × Nat × Option (List UInt8) :=
  if (rowS st).2.1 ≠ 0 then (Fct.zero, (rowS st).2.1, (rowS st).2.2)
  else if (rowS st).1.length = 0 then (Fct.zero, 5, (rowS st).2.2)
  else (⟨k, (rowS st).1⟩, 0, (rowS st).2.2)
def TakeFEnd (w : World) (g : Nat) (h : Option Nat) (r : Fct × Nat × Option (List UInt8)) (e : Ending) (w' : World) : Prop :=
  ∃ v, e = .returned (.tuple #[.agg (fctCells r.1 v).toArray, .int .i64 (r.2.1 : Int)]) ∧ OwnB 5 w' w.heap.size v r.1.val ∧ Rd w' g h r.2.2 ∧ w.grownBy w' (some g)

set_option maxRecDepth 100000 in
set_option maxHeartbeats 2000000 in
theorem takeF_any {w : World} {g : Nat} {h : Option Nat} {st : Option (List UInt8)} (r0 : Rd w g h st) (hh : ∀ k, h = some k → k < w.heap.size) (k : Ky) :
    Calls Try.prog 29 #[.agg #[], .pointer (some ⟨g, 0, none⟩), k.val] w (TakeFEnd w g h (tkF k st)) := by
  obtain ⟨R, hR⟩ : ∃ R, tkF k st = R := ⟨_, rfl⟩
  rw [hR]
  obtain ⟨fi, fa, fs, fc⟩ := k
  unfold Ky.val
  dsimp only
  obtain ⟨q, hq⟩ : ∃ q, rowS st = q := ⟨_, rfl⟩
  have hR' : (if q.2.1 ≠ 0 then (Fct.zero, q.2.1, q.2.2) else if q.1.length = 0 then (Fct.zero, 5, q.2.2) else (⟨⟨fi, fa, fs, fc⟩, q.1⟩, 0, q.2.2)) = R := by rw [← hR, ← hq]; rfl
  have hq1 : q.1.length ≤ 255 := by
    rw [← hq]
    cases st with
    | none => exact Nat.zero_le _
    | some r => exact rowS_len r
  have hgw := r0.lt
  have HR0 := Lib.hid (And.intro r0 hh)
  have HQ := Lib.hid (And.intro hq (And.intro hR' hq1))
  clear r0 hh hq hR hR' hq1
  have hbel : Below w.heap.size w (((w.alloc (.cells #[] 52)).alloc (.cells #[.int .i64 fi, .int .u8 (fa.toNat : Int), .string fs, .int .i64 fc] 30)).alloc (.cells #[.int .i64 0, .int .u8 0, .string ⟨#[]⟩, .int .i64 0, .slice none 0 0] 32)) := (((Below.refl _ _).alloc (Nat.le_refl _) _).alloc (by simp) _).alloc (by simp; omega) _
  have hK := (Blk.new (w.alloc (.cells #[] 52)) 30 #[.int .i64 fi, .int .u8 (fa.toNat : Int), .string fs, .int .i64 fc]).alloc (.cells #[.int .i64 0, .int .u8 0, .string ⟨#[]⟩, .int .i64 0, .slice none 0 0] 32)
  have hZ := Blk.new ((w.alloc (.cells #[] 52)).alloc (.cells #[.int .i64 fi, .int .u8 (fa.toNat : Int), .string fs, .int .i64 fc] 30)) 32 #[.int .i64 0, .int .u8 0, .string ⟨#[]⟩, .int .i64 0, .slice none 0 0]
  simp only [alloc_sz] at hZ hK
  have H0 := Lib.hid (And.intro (HR0.out.1.below hbel) (And.intro hK (And.intro hZ (And.intro HR0.out.2 (grown_of_below hbel (some g))))))
  clear hbel hK hZ
  go_enter Try.func29, Try.ntmps29
  go_wp2_with fail
  refine (row_any H0.out.1).mono ?_
  rintro e w1 ⟨v, rfl, ho1, hr1, hg1⟩
  rw [HQ.out.1] at ho1 hr1 ⊢
  have hK1 := H0.out.2.1.grown hg1 (fun e => by injection e with e; omega)
  have hZ1 := H0.out.2.2.1.grown hg1 (fun e => by injection e with e; omega)
  have hg2 := grown_trans H0.out.2.2.2.2 hg1
  obtain ⟨A1, c1, rfl, hrv, hl1, hm1, _⟩ := ho1.slice
  have hs1 := hZ1.lt
  have k0 := hK1.cell 0
  have k1 := hK1.cell 1
  have k2 := hK1.cell 2
  have k3 := hK1.cell 3
  simp at k0 k1 k2 k3
  have z0 := hZ1.cell 0
  have f0 := hZ1.frozen 0
  have z1 := hZ1.cell 1
  have f1 := hZ1.frozen 1
  have z2 := hZ1.cell 2
  have f2 := hZ1.frozen 2
  have z3 := hZ1.cell 3
  have f3 := hZ1.frozen 3
  have z4 := hZ1.cell 4
  have f4 := hZ1.frozen 4
  simp at z0 z1 z2 z3 z4
  have H1 := Lib.hid (And.intro hr1 (And.intro hK1 (And.intro hZ1 (And.intro hg2 hrv))))
  clear hr1 hK1 hZ1 hg1 hg2 hrv ho1
  obtain ⟨x, code, st'⟩ := q
  dsimp only at H1 HQ ⊢
  by_cases hcode : code ≠ 0
  · have hne1 : ((code : Int) != 0) = true := by simp; omega
    have hres := HQ.out.2.1
    rw [if_pos hcode] at hres
    have HF := Lib.hid hres
    have hc5 : code = 4 := by
      have := rowS_no (st := st) (by rw [HQ.out.1]; exact hcode)
      rw [HQ.out.1] at this
      injection this with _ this
      injection this with this _
    clear hres hcode k0 k1 k2 k3
    subst hc5
    go_wp2_with fail
    rw [← HF.out]
    refine post_cell2 Try.results29 Try.underlying32 rfl _ rfl (H1.out.2.2.1.set5 _ _ _ _ _) (by kernel_rfl) ?_
    exact ⟨.slice none 0 0, rfl, OwnB.nil _ _ _, rd_set5 H1.out.1 (by omega) (fun k hk => by have := H0.out.2.2.2.1 k hk; omega) _ _ _ _ _, grown_set5 H1.out.2.2.2.1 (by omega) _ _ _ _ _⟩
  · obtain rfl : code = 0 := by omega
    obtain ⟨L, hL⟩ : ∃ L, x.length = L := ⟨_, rfl⟩
    have hLq := HQ.out.2.2
    rw [hL] at hLq hl1 ⊢
    by_cases hlen : L = 0
    · have hres := HQ.out.2.1
      rw [if_neg (by simp), if_pos (by rw [hL]; exact hlen)] at hres
      have HF := Lib.hid hres
      subst hlen
      clear hres k0 k1 k2 k3
      go_wp2_with fail
      rw [← HF.out]
      refine post_cell2 Try.results29 Try.underlying32 rfl _ rfl (H1.out.2.2.1.set5 _ _ _ _ _) (by kernel_rfl) ?_
      exact ⟨.slice none 0 0, rfl, OwnB.nil _ _ _, rd_set5 H1.out.1 (by omega) (fun k hk => by have := H0.out.2.2.2.1 k hk; omega) _ _ _ _ _, grown_set5 H1.out.2.2.2.1 (by omega) _ _ _ _ _⟩
    · have hres := HQ.out.2.1
      rw [if_neg (by simp), if_neg (by rw [hL]; exact hlen)] at hres
      have HF := Lib.hid (And.intro hres hL)
      have hA : ∃ ad, A1 = some ad := by
        obtain ⟨ad, e, _⟩ := H1.out.2.2.2.2 (by rw [bv_length, hL]; omega)
        exact ⟨ad, e⟩
      obtain ⟨ad, rfl⟩ := hA
      have hC := (clone_ok w1.drew ad L c1 x hL (H1.out.2.2.2.2.below (Below.refl _ _).drew) (by omega)).mono fun e w2 (h : OwnEnd w1.drew x e w2) => show (∃ A2 c2, e = .returned (.slice A2 L c2) ∧ (w2.cell? ⟨w.heap.size + 1, 0, none⟩ = some (.int .i64 fi) ∧ w2.cell? ⟨w.heap.size + 1, 1, none⟩ = some (.int .u8 (fa.toNat : Int)) ∧ w2.cell? ⟨w.heap.size + 1, 2, none⟩ = some (.string fs) ∧ w2.cell? ⟨w.heap.size + 1, 3, none⟩ = some (.int .i64 fc)) ∧
          (w2.cell? ⟨w.heap.size + 1 + 1, 0, none⟩ = some (.int .i64 0) ∧ w2.cell? ⟨w.heap.size + 1 + 1, 1, none⟩ = some (.int .u8 0) ∧ w2.cell? ⟨w.heap.size + 1 + 1, 2, none⟩ = some (.string ⟨#[]⟩) ∧ w2.cell? ⟨w.heap.size + 1 + 1, 3, none⟩ = some (.int .i64 0) ∧ w2.cell? ⟨w.heap.size + 1 + 1, 4, none⟩ = some (.slice none 0 0)) ∧
          (w2.frozen? ⟨w.heap.size + 1 + 1, 0, none⟩ = false ∧ w2.frozen? ⟨w.heap.size + 1 + 1, 1, none⟩ = false ∧ w2.frozen? ⟨w.heap.size + 1 + 1, 2, none⟩ = false ∧ w2.frozen? ⟨w.heap.size + 1 + 1, 3, none⟩ = false ∧ w2.frozen? ⟨w.heap.size + 1 + 1, 4, none⟩ = false) ∧
          Hid (OwnB 5 w2 w1.heap.size (.slice A2 L c2) x ∧ Below w1.heap.size w1 w2 ∧ Blk w2 (w.heap.size + 1 + 1) 32 #[.int .i64 0, .int .u8 0, .string ⟨#[]⟩, .int .i64 0, .slice none 0 0])) by
        obtain ⟨v2, rfl, ho2, hb2⟩ := h
        obtain ⟨A2, c2, rfl, _, _, _, _⟩ := ho2.slice
        rw [hL] at ho2 ⊢
        have hb : Below w1.heap.size w1 w2 := below_then (Below.refl w1.heap.size w1).drew (Nat.le_refl _) hb2
        have hKb := H1.out.2.1.below hb (by omega)
        have hZb := H1.out.2.2.1.below hb (by omega)
        refine ⟨A2, c2, rfl, ⟨?_, ?_, ?_, ?_⟩, ⟨?_, ?_, ?_, ?_, ?_⟩, ⟨hZb.frozen 0, hZb.frozen 1, hZb.frozen 2, hZb.frozen 3, hZb.frozen 4⟩, Lib.hid ⟨ho2, hb, hZb⟩⟩
        · exact hKb.cell 0
        · exact hKb.cell 1
        · exact hKb.cell 2
        · exact hKb.cell 3
        · exact hZb.cell 0
        · exact hZb.cell 1
        · exact hZb.cell 2
        · exact hZb.cell 3
        · exact hZb.cell 4
      have HC := Lib.hid hC
      clear hC
      have hln : ((L : Int) == 0) = false := beq_eq_false_iff_ne.2 (by omega)
      clear hres
      go_wp2_with fail
      go_region_with (go_at_call 53; refine HC.out.mono ?_; rintro e w2 ⟨A2, c2, rfl, ⟨q0, q1, q2, q3⟩, ⟨y0, y1, y2, y3, y4⟩, ⟨x0, x1, x2, x3, x4⟩, HQ2⟩)
      all_goals
        go_wp2_with fail
        rw [← HF.out.1]
        refine post_cell2 Try.results29 Try.underlying32 rfl _ rfl (HQ2.out.2.2.set5 _ _ _ _ _) (by kernel_rfl) ?_
        exact ⟨.slice A2 L c2, rfl, (ownB5 HQ2.out.1 (by omega) _ _ _ _ _).lower (by omega), rd_set5 (H1.out.1.below HQ2.out.2.1) (by omega) (fun k hk => by have := H0.out.2.2.2.1 k hk; omega) _ _ _ _ _, grown_set5 (grown_trans H1.out.2.2.2.1 (grown_of_below HQ2.out.2.1 _)) (by omega) _ _ _ _ _⟩
end Go.Proofs.Ytegoeagmadhpgaa
