import Derived.Deep.RegionHeld3
import Derived.Test.YtegoeagmadhpgaaMPlain
import Derived.Test.YtegoeagmadhpgaaMCopy
import Derived.Test.YtegoeagmadhpgaaMKeyG
import Derived.Test.YtegoeagmadhpgaaMTake
import Derived.Test.YtegoeagmadhpgaaLeafRM
import Derived.Test.YtegoeagmadhpgaaMKeyC
set_option linter.unusedVariables false
set_option linter.unusedSimpArgs false
/- Layer 15: what stands behind a fact's key: contract. -/
namespace Go.Proofs.Ytegoeagmadhpgaa
open Go.RowKit

theorem Blk.set5 {w : World} {g : Nat} {t : TypeId} {a b c d e : Value} (h : Blk w g t #[a, b, c, d, e]) (a' b' c' d' e' : Value) :
    Blk (((((w.setCell ⟨g, 0, none⟩ a').setCell ⟨g, 1, none⟩ b').setCell ⟨g, 2, none⟩ c').setCell ⟨g, 3, none⟩ d').setCell ⟨g, 4, none⟩ e') g t #[a', b', c', d', e'] := by
  have := ((((h.set_ 0 a').set_ 1 b').set_ 2 c').set_ 3 d').set_ 4 e'
  simpa using this
theorem grown_set5 {w w2 : World} {row : Option Nat} (h : w.grownBy w2 row) {R : Nat} (hR : w.heap.size ≤ R) (a b c d e : Value) :
    w.grownBy (((((w2.setCell ⟨R, 0, none⟩ a).setCell ⟨R, 1, none⟩ b).setCell ⟨R, 2, none⟩ c).setCell ⟨R, 3, none⟩ d).setCell ⟨R, 4, none⟩ e) row :=
  grown_new_set (grown_set4 h hR a b c d) hR e
theorem rd_set5 {w : World} {g : Nat} {h : Option Nat} {st : Option (List UInt8)} (r : Rd w g h st) {R : Nat} (hg : g ≠ R) (hh : ∀ k, h = some k → k ≠ R) (a b c d e : Value) :
    Rd (((((w.setCell ⟨R, 0, none⟩ a).setCell ⟨R, 1, none⟩ b).setCell ⟨R, 2, none⟩ c).setCell ⟨R, 3, none⟩ d).setCell ⟨R, 4, none⟩ e) g h st :=
  rd_far1 (rd_set4 r hg hh a b c d) hg hh e
theorem ownB5 {e0 : TypeId} {w : World} {base : Nat} {v : Value} {xs : List UInt8} (h : OwnB e0 w base v xs) {R : Nat} (hR : R < base) (a b c d e : Value) :
    OwnB e0 (((((w.setCell ⟨R, 0, none⟩ a).setCell ⟨R, 1, none⟩ b).setCell ⟨R, 2, none⟩ c).setCell ⟨R, 3, none⟩ d).setCell ⟨R, 4, none⟩ e) base v xs :=
  ((((h.setOther hR a).setOther hR b).setOther hR c).setOther hR d).setOther hR e
/-- Behind a key: a fact, an error, what is left. -/
def tkF (k : Ky) (st : Option (List UInt8)) : Fct × Nat × Option (List UInt8) :=
  if (rowS st).2.1 ≠ 0 then (Fct.zero, (rowS st).2.1, (rowS st).2.2)
  else if (rowS st).1.length = 0 then (Fct.zero, 5, (rowS st).2.2)
  else (⟨k, (rowS st).1⟩, 0, (rowS st).2.2)
def TakeFEnd (w : World) (g : Nat) (h : Option Nat) (r : Fct × Nat × Option (List UInt8)) (e : Ending) (w' : World) : Prop :=
  ∃ v, e = .returned (.tuple #[.agg (fctCells r.1 v).toArray, .int .i64 (r.2.1 : Int)]) ∧ OwnB 5 w' w.heap.size v r.1.val ∧ Rd w' g h r.2.2 ∧ w.grownBy w' (some g)

set_option maxRecDepth 100000 in
set_option maxHeartbeats 2000000 in
theorem takeF_any {w : World} {g : Nat} {h : Option Nat} {st : Option (List UInt8)} (r0 : Rd w g h st) (hh : ∀ k, h = some k → k < w.heap.size) (k : Ky) :
    Calls Try.prog 29 #[.agg #[], .pointer (some ⟨g, 0, none⟩), k.val] w (TakeFEnd w g h (tkF k st)) := by
  obtain ⟨R, hR⟩ : ∃ R, tkF k st = R := ⟨_, rfl⟩
  rw [hR]
  obtain ⟨fi, fa, fs, fc⟩ := k
  unfold Ky.val
  dsimp only
  obtain ⟨q, hq⟩ : ∃ q, rowS st = q := ⟨_, rfl⟩
  have hR' : (if q.2.1 ≠ 0 then (Fct.zero, q.2.1, q.2.2) else if q.1.length = 0 then (Fct.zero, 5, q.2.2) else (⟨⟨fi, fa, fs, fc⟩, q.1⟩, 0, q.2.2)) = R := by rw [← hR, ← hq]; rfl
  have hq1 : q.1.length ≤ 255 := by
    rw [← hq]
    cases st with
    | none => exact Nat.zero_le _
    | some r => exact rowS_len r
  have hgw := r0.lt
  have HR0 := Lib.hid (And.intro r0 hh)
  have HQ := Lib.hid (And.intro hq (And.intro hR' hq1))
  clear r0 hh hq hR hR' hq1
  have hbel : Below w.heap.size w (((w.alloc (.cells #[] 52)).alloc (.cells #[.int .i64 fi, .int .u8 (fa.toNat : Int), .string fs, .int .i64 fc] 30)).alloc (.cells #[.int .i64 0, .int .u8 0, .string ⟨#[]⟩, .int .i64 0, .slice none 0 0] 32)) := (((Below.refl _ _).alloc (Nat.le_refl _) _).alloc (by simp) _).alloc (by simp; omega) _
  have hK := (Blk.new (w.alloc (.cells #[] 52)) 30 #[.int .i64 fi, .int .u8 (fa.toNat : Int), .string fs, .int .i64 fc]).alloc (.cells #[.int .i64 0, .int .u8 0, .string ⟨#[]⟩, .int .i64 0, .slice none 0 0] 32)
  have hZ := Blk.new ((w.alloc (.cells #[] 52)).alloc (.cells #[.int .i64 fi, .int .u8 (fa.toNat : Int), .string fs, .int .i64 fc] 30)) 32 #[.int .i64 0, .int .u8 0, .string ⟨#[]⟩, .int .i64 0, .slice none 0 0]
  simp only [alloc_sz] at hZ hK
  have H0 := Lib.hid (And.intro (HR0.out.1.below hbel) (And.intro hK (And.intro hZ (And.intro HR0.out.2 (grown_of_below hbel (some g))))))
  clear hbel hK hZ
  go_enter Try.func29, Try.ntmps29
  go_wp2_with fail
  refine (row_any H0.out.1).mono ?_
  rintro e w1 ⟨v, rfl, ho1, hr1, hg1⟩
  rw [HQ.out.1] at ho1 hr1 ⊢
  have hK1 := H0.out.2.1.grown hg1 (fun e => by injection e with e; omega)
  have hZ1 := H0.out.2.2.1.grown hg1 (fun e => by injection e with e; omega)
  have hg2 := grown_trans H0.out.2.2.2.2 hg1
  obtain ⟨A1, c1, rfl, hrv, hl1, hm1, _⟩ := ho1.slice
  have hs1 := hZ1.lt
  have k0 := hK1.cell 0
  have k1 := hK1.cell 1
  have k2 := hK1.cell 2
  have k3 := hK1.cell 3
  simp at k0 k1 k2 k3
  have z0 := hZ1.cell 0
  have f0 := hZ1.frozen 0
  have z1 := hZ1.cell 1
  have f1 := hZ1.frozen 1
  have z2 := hZ1.cell 2
  have f2 := hZ1.frozen 2
  have z3 := hZ1.cell 3
  have f3 := hZ1.frozen 3
  have z4 := hZ1.cell 4
  have f4 := hZ1.frozen 4
  simp at z0 z1 z2 z3 z4
  have H1 := Lib.hid (And.intro hr1 (And.intro hK1 (And.intro hZ1 (And.intro hg2 hrv))))
  clear hr1 hK1 hZ1 hg1 hg2 hrv ho1
  obtain ⟨x, code, st'⟩ := q
  dsimp only at H1 HQ ⊢
  by_cases hcode : code ≠ 0
  · have hne1 : ((code : Int) != 0) = true := by simp; omega
    have hres := HQ.out.2.1
    rw [if_pos hcode] at hres
    have HF := Lib.hid hres
    have hc5 : code = 4 := by
      have := rowS_no (st := st) (by rw [HQ.out.1]; exact hcode)
      rw [HQ.out.1] at this
      injection this with _ this
      injection this with this _
    clear hres hcode k0 k1 k2 k3
    subst hc5
    go_wp2_with fail
    rw [← HF.out]
    refine post_cell2 Try.results29 Try.underlying32 rfl _ rfl (H1.out.2.2.1.set5 _ _ _ _ _) (by kernel_rfl) ?_
    exact ⟨.slice none 0 0, rfl, OwnB.nil _ _ _, rd_set5 H1.out.1 (by omega) (fun k hk => by have := H0.out.2.2.2.1 k hk; omega) _ _ _ _ _, grown_set5 H1.out.2.2.2.1 (by omega) _ _ _ _ _⟩
  · obtain rfl : code = 0 := by omega
    obtain ⟨L, hL⟩ : ∃ L, x.length = L := ⟨_, rfl⟩
    have hLq := HQ.out.2.2
    rw [hL] at hLq hl1 ⊢
    by_cases hlen : L = 0
    · have hres := HQ.out.2.1
      rw [if_neg (by simp), if_pos (by rw [hL]; exact hlen)] at hres
      have HF := Lib.hid hres
      subst hlen
      clear hres k0 k1 k2 k3
      go_wp2_with fail
      rw [← HF.out]
      refine post_cell2 Try.results29 Try.underlying32 rfl _ rfl (H1.out.2.2.1.set5 _ _ _ _ _) (by kernel_rfl) ?_
      exact ⟨.slice none 0 0, rfl, OwnB.nil _ _ _, rd_set5 H1.out.1 (by omega) (fun k hk => by have := H0.out.2.2.2.1 k hk; omega) _ _ _ _ _, grown_set5 H1.out.2.2.2.1 (by omega) _ _ _ _ _⟩
    · have hres := HQ.out.2.1
      rw [if_neg (by simp), if_neg (by rw [hL]; exact hlen)] at hres
      have HF := Lib.hid (And.intro hres hL)
      have hA : ∃ ad, A1 = some ad := by
        obtain ⟨ad, e, _⟩ := H1.out.2.2.2.2 (by rw [bv_length, hL]; omega)
        exact ⟨ad, e⟩
      obtain ⟨ad, rfl⟩ := hA
      have hC := (clone_ok w1.drew ad L c1 x hL (H1.out.2.2.2.2.below (Below.refl _ _).drew) (by omega)).mono fun e w2 (h : OwnEnd w1.drew x e w2) => show (∃ A2 c2, e = .returned (.slice A2 L c2) ∧ (w2.cell? ⟨w.heap.size + 1, 0, none⟩ = some (.int .i64 fi) ∧ w2.cell? ⟨w.heap.size + 1, 1, none⟩ = some (.int .u8 (fa.toNat : Int)) ∧ w2.cell? ⟨w.heap.size + 1, 2, none⟩ = some (.string fs) ∧ w2.cell? ⟨w.heap.size + 1, 3, none⟩ = some (.int .i64 fc)) ∧
          (w2.cell? ⟨w.heap.size + 1 + 1, 0, none⟩ = some (.int .i64 0) ∧ w2.cell? ⟨w.heap.size + 1 + 1, 1, none⟩ = some (.int .u8 0) ∧ w2.cell? ⟨w.heap.size + 1 + 1, 2, none⟩ = some (.string ⟨#[]⟩) ∧ w2.cell? ⟨w.heap.size + 1 + 1, 3, none⟩ = some (.int .i64 0) ∧ w2.cell? ⟨w.heap.size + 1 + 1, 4, none⟩ = some (.slice none 0 0)) ∧
          (w2.frozen? ⟨w.heap.size + 1 + 1, 0, none⟩ = false ∧ w2.frozen? ⟨w.heap.size + 1 + 1, 1, none⟩ = false ∧ w2.frozen? ⟨w.heap.size + 1 + 1, 2, none⟩ = false ∧ w2.frozen? ⟨w.heap.size + 1 + 1, 3, none⟩ = false ∧ w2.frozen? ⟨w.heap.size + 1 + 1, 4, none⟩ = false) ∧
          Hid (OwnB 5 w2 w1.heap.size (.slice A2 L c2) x ∧ Below w1.heap.size w1 w2 ∧ Blk w2 (w.heap.size + 1 + 1) 32 #[.int .i64 0, .int .u8 0, .string ⟨#[]⟩, .int .i64 0, .slice none 0 0])) by
        obtain ⟨v2, rfl, ho2, hb2⟩ := h
        obtain ⟨A2, c2, rfl, _, _, _, _⟩ := ho2.slice
        rw [hL] at ho2 ⊢
        have hb : Below w1.heap.size w1 w2 := below_then (Below.refl w1.heap.size w1).drew (Nat.le_refl _) hb2
        have hKb := H1.out.2.1.below hb (by omega)
        have hZb := H1.out.2.2.1.below hb (by omega)
        refine ⟨A2, c2, rfl, ⟨?_, ?_, ?_, ?_⟩, ⟨?_, ?_, ?_, ?_, ?_⟩, ⟨hZb.frozen 0, hZb.frozen 1, hZb.frozen 2, hZb.frozen 3, hZb.frozen 4⟩, Lib.hid ⟨ho2, hb, hZb⟩⟩
        · exact hKb.cell 0
        · exact hKb.cell 1
        · exact hKb.cell 2
        · exact hKb.cell 3
        · exact hZb.cell 0
        · exact hZb.cell 1
        · exact hZb.cell 2
        · exact hZb.cell 3
        · exact hZb.cell 4
      have HC := Lib.hid hC
      clear hC
      have hln : ((L : Int) == 0) = false := beq_eq_false_iff_ne.2 (by omega)
      clear hres
      go_wp2_with fail
      go_region_with (go_at_call 53; refine HC.out.mono ?_; rintro e w2 ⟨A2, c2, rfl, ⟨q0, q1, q2, q3⟩, ⟨y0, y1, y2, y3, y4⟩, ⟨x0, x1, x2, x3, x4⟩, HQ2⟩)
      all_goals
        go_wp2_with fail
        rw [← HF.out.1]
        refine post_cell2 Try.results29 Try.underlying32 rfl _ rfl (HQ2.out.2.2.set5 _ _ _ _ _) (by kernel_rfl) ?_
        exact ⟨.slice A2 L c2, rfl, (ownB5 HQ2.out.1 (by omega) _ _ _ _ _).lower (by omega), rd_set5 (H1.out.1.below HQ2.out.2.1) (by omega) (fun k hk => by have := H0.out.2.2.2.1 k hk; omega) _ _ _ _ _, grown_set5 (grown_trans H1.out.2.2.2.1 (grown_of_below HQ2.out.2.1 _)) (by omega) _ _ _ _ _⟩
end Go.Proofs.Ytegoeagmadhpgaa

/- Layer 15: a list of facts that is read: contract. -/
namespace Go.Proofs.Ytegoeagmadhpgaa
open Go.RowKit

theorem post_cell1 {P : Program} {fn : Func} {p : Tmp} {ty : TypeId} (h : fn.results = #[.cell p ty]) {d : TypeDesc} (hu : P.underlying ty = some d) (hd : (match d with | .struct _ | .array _ _ => true | _ => false) = true)
    {Q : Ending → World → Prop} {tmps : Array Value} {w : World} {g : Nat} {t : TypeId} (cs : Array Value) (hp : tmps.getD p undef = .pointer (some ⟨g, 0, none⟩)) (hg : w.heap[g]? = some (.cells cs t (0, 0)))
    (hi : (P.info? ty).map (·.size) = some cs.size) (hQ : Q (.returned (.agg cs)) w) : bodyPost P fn Q .ret { tmps := tmps, defers := [] } w :=
  bodyPost_ret (v := .agg cs) (results_cell_row h tmps w g t cs (0, 0) d hp hg hu hd hi) rfl hQ
theorem fctS_tk {st : Option (List UInt8)} (h : (getKeyS st).2.1 = 0) : fctS st = tkF (getKeyS st).1 (getKeyS st).2.2 := by
  unfold fctS tkF
  rw [if_neg (by omega)]
theorem fctS_no {st : Option (List UInt8)} (h : (getKeyS st).2.1 ≠ 0) : fctS st = (Fct.zero, (getKeyS st).2.1, (getKeyS st).2.2) := by
  unfold fctS
  rw [if_pos h]
theorem tkF_ok (k : Ky) (st : Option (List UInt8)) (h : (tkF k st).2.1 = 0) : (tkF k st).1.key = k ∧ (tkF k st).1.val ≠ [] := by
  unfold tkF at h ⊢
  split at h
  · rename_i h1
    exact absurd h h1
  · rename_i h1
    split at h
    · cases h
    · rename_i h2
      rw [if_neg h1, if_neg h2]
      exact ⟨rfl, fun e => h2 (by dsimp only at e; rw [e]; rfl)⟩
theorem keyF_any (w : World) (k : Ky) (u : Value) (hu : ∃ B n d, u = .slice B n d) : Calls Try.prog 28 #[.agg #[.int .i64 k.ino, .int .u8 (k.what.toNat : Int), .string k.name, .int .i64 k.chunk, u]] w fun e w' => e = .returned k.val ∧ Below w.heap.size w w' := by
  obtain ⟨B, n, d, rfl⟩ := hu
  obtain ⟨fi, fa, fs, fc⟩ := k
  unfold Ky.val
  dsimp only
  go_enter Try.func28, Try.ntmps28
  go_wp2_with fail
  refine post_cell1 Try.results28 Try.underlying30 rfl _ rfl (by have := Blk.new (w.alloc (.cells #[.int .i64 fi, .int .u8 (fa.toNat : Int), .string fs, .int .i64 fc, .slice B n d] 32)) 30 #[.int .i64 fi, .int .u8 (fa.toNat : Int), .string fs, .int .i64 fc]; rw [alloc_sz] at this; exact this) (by kernel_rfl) ?_
  exact ⟨rfl, ((Below.refl _ _).alloc (Nat.le_refl _) _).alloc (by simp) _⟩
def LsFEnd (w : World) (r : List Fct × Nat) (e : Ending) (w' : World) : Prop :=
  ∃ v, e = .returned (.tuple #[v, .int .i64 (r.2 : Int)]) ∧ (∃ ps : List (Fct × Value), ps.map (·.1) = r.1 ∧ OwnFG w' w.heap.size v r.1.length ps) ∧ Below w.heap.size w w'

set_option maxRecDepth 100000 in
set_option maxHeartbeats 4000000 in
theorem listF_any (w : World) (A : Option Addr) (c : Nat) (xs : List UInt8) (hr : RV w A (bv xs)) (hx : xs.length ≤ 140737488355328) :
    Calls Try.prog 27 #[.slice A xs.length c, .func (.func 28) #[] #[], .func (.func 29) #[.agg #[]] #[]] w (LsFEnd w (getLeafS xs)) := by
  have HR := Lib.hid hr
  clear hr
  obtain ⟨ii, iz, hii, hiz, hi1, hi2, hi3⟩ := fct_info'
  cases xs with
  | nil =>
    go_enter Try.func27, Try.ntmps27
    go_wp2_with fail
    refine (new_any w A c [] HR.out hx).mono ?_
    rintro e w1 ⟨g, h, rfl, hrd, hb1, hg1, hg2, hh⟩
    have H1 := Lib.hid (And.intro hrd hb1)
    clear hrd hb1 hh
    go_wp2_with fail
    refine (take_any (s := 1) H1.out.1 (.inl rfl)).mono ?_
    rintro e w2 ⟨rfl, hr2, hg3⟩
    rw [show takeS (some []) 1 = (0, 4, none) from rfl]
    dsimp only
    have hbw : Below w.heap.size w w2 := H1.out.2.grown hg3 H1.out.2.size (fun k e => by injection e with e; omega)
    have H2 := Lib.hid hbw
    clear hr2 hg3 hbw
    go_wp2_with fail
    go_ret2
    exact ⟨_, rfl, ⟨[], rfl, OwnG.nil _ _⟩, H2.out⟩
  | cons f r =>
    have ht : takeS (some (f :: r)) 1 = (f.toNat, 0, some r) := by simp [takeS, leval]
    have HT := Lib.hid ht
    have hf := f.toNat_lt
    clear ht
    by_cases h0 : f.toNat = 0
    · go_enter Try.func27, Try.ntmps27
      go_wp2_with fail
      refine (new_any w A c (f :: r) HR.out hx).mono ?_
      rintro e w1 ⟨g, h, rfl, hrd, hb1, hg1, hg2, hh⟩
      have H1 := Lib.hid (And.intro hrd hb1)
      clear hrd hb1 hh
      go_wp2_with fail
      refine (take_any (s := 1) H1.out.1 (.inl rfl)).mono ?_
      rintro e w2 ⟨rfl, hr2, hg3⟩
      rw [HT.out, h0]
      dsimp only
      have hbw : Below w.heap.size w w2 := H1.out.2.grown hg3 H1.out.2.size (fun k e => by injection e with e; omega)
      have hfin : getLeafS (f :: r) = ([], 5) := by unfold getLeafS lsS; dsimp only; rw [if_pos h0]
      have H2 := Lib.hid (And.intro hbw hfin)
      clear hr2 hg3 hbw hfin h0
      go_wp2_with fail
      go_ret2
      rw [H2.out.2]
      exact ⟨_, rfl, ⟨[], rfl, OwnG.nil _ _⟩, H2.out.1⟩
    · go_enter Try.func27, Try.ntmps27
      go_wp2_with fail
      refine (new_any w A c (f :: r) HR.out hx).mono ?_
      rintro e w1 ⟨g, h, rfl, hrd, hb1, hg1, hg2, hh⟩
      have H1 := Lib.hid (And.intro hrd (And.intro hb1 hh))
      clear hrd hb1 hh
      go_wp2_with fail
      refine (take_any (s := 1) H1.out.1 (.inl rfl)).mono ?_
      rintro e w2 ⟨rfl, hr2, hg3⟩
      rw [HT.out] at hr2 ⊢
      dsimp only at hr2 ⊢
      have hbw : Below w.heap.size w w2 := H1.out.2.1.grown hg3 H1.out.2.1.size (fun k e => by injection e with e; omega)
      have hs2 := hg3.size
      have H2 := Lib.hid (And.intro hr2 hbw)
      clear hr2 hbw hg3
      have hne : ((f.toNat : Int) == 0) = false := beq_eq_false_iff_ne.2 (by omega)
      obtain ⟨F, hF⟩ : ∃ F, f.toNat = F := ⟨_, rfl⟩
      have hrec : getLeafS (f :: r) = if (lsGo fctS Fct.key F none (some r)).2.1 ≠ 0 then ([], (lsGo fctS Fct.key F none (some r)).2.1) else if 0 < leftS (lsGo fctS Fct.key F none (some r)).2.2 then ([], 5) else ((lsGo fctS Fct.key F none (some r)).1, 0) := by
        unfold getLeafS lsS
        dsimp only
        rw [if_neg h0, hF]
      rw [hF] at hf hne h0 ⊢
      have hF0 : 0 < F := by omega
      have HRC := Lib.hid hrec
      clear hrec hF h0
      go_wp2_with fail
      go_loopg [11, 30] F (fun k v i wr => ∃ (j : Nat) (ps : List (Fct × Value)) (st : Option (List UInt8)), j + k = F ∧ i = .int .u64 j ∧ OwnPs fctCells Fct.val (fun c => okKy c.key) 5 32 wr w1.heap.size v j ps ∧
        (∀ p ∈ ps, SpB wr w1.heap.size p.2 p.1.val) ∧ Rd wr g h st ∧ Below w.heap.size w wr ∧ w1.heap.size ≤ wr.heap.size ∧ addG (ps.map (·.1)) (lsGo fctS Fct.key k (lastK Fct.key (ps.map (·.1))) st) = lsGo fctS Fct.key F none (some r))
      case atStart => exact ⟨0, [], some r, by omega, rfl, OwnPs.nil _ _ _, (fun _ hp => by cases hp), H2.out.1, H2.out.2, hs2, addG_nil _ _ _⟩
      case round =>
        obtain ⟨j, ps, st, hj, rfl, ho, hvs, hrd, hb, hsz, heq⟩ := hrel
        have HX := Lib.hid (And.intro ho (And.intro hvs (And.intro hrd (And.intro hb heq))))
        clear ho hvs hrd hb heq
        by_cases hlt : j < F
        · obtain ⟨k', rfl⟩ : ∃ k', gk = k' + 1 := ⟨gk - 1, by omega⟩
          have hnm := getKeyS_name st
          obtain ⟨q, hq⟩ : ∃ q, getKeyS st = q := ⟨_, rfl⟩
          rw [hq] at hnm
          have HQ := Lib.hid hq
          clear hq
          obtain ⟨⟨ki, ka, ks, kc⟩, code, st1⟩ := q
          dsimp only at hnm
          have HN := Lib.hid hnm
          clear hnm
          go_wp2_with fail
          refine (getKey_any HX.out.2.2.1 (fun k hk => by have := (H1.out.2.2 k hk).2; omega)).mono ?_
          rintro e w3 ⟨rfl, hr3, hg3⟩
          rw [HQ.out] at hr3 ⊢
          unfold Ky.val
          dsimp only at hr3 ⊢
          have hs3 := hg3.size
          have hb3 := HX.out.2.2.2.1.grown hg3 HX.out.2.2.2.1.size (fun k e => by injection e with e; omega)
          have hv3 : ∀ p ∈ ps, SpB w3 w1.heap.size p.2 p.1.val := fun p hp => (HX.out.2.1 p hp).far hg3 (by omega)
          have ho3 : OwnPs fctCells Fct.val (fun c => okKy c.key) 5 32 w3 w1.heap.size u11 j ps := OwnPs.kept HX.out.1 hg3 (.inr fun e => by have := (OwnPs.blk HX.out.1 e).1; omega) (fun p hp => (HX.out.2.1 p hp).valB fun k e => by injection e with e; omega)
          have H3 := Lib.hid (And.intro hr3 (And.intro hb3 (And.intro hv3 ho3)))
          clear hr3 hb3 hv3 ho3 hg3
          by_cases hcode : code ≠ 0
          · have hne1 : ((code : Int) != 0) = true := by simp; omega
            have hfin : getLeafS (f :: r) = ([], code) := by
              have h2 : (fctS st).2.1 = code := by rw [fctS_no (by rw [HQ.out]; exact hcode), HQ.out]
              have h1 := addG_no (one := fctS) (key := Fct.key) (ps.map (·.1)) k' (lastK Fct.key (ps.map (·.1))) st (by rw [h2]; exact hcode)
              rw [HX.out.2.2.2.2, h2] at h1
              rw [HRC.out, h1, if_pos hcode]
            have HF := Lib.hid hfin
            clear hfin hcode
            go_wp2_with fail
            go_ret2
            rw [HF.out]
            exact ⟨_, rfl, ⟨[], rfl, OwnG.nil _ _⟩, H3.out.2.1.alloc H3.out.2.1.size _⟩
          · obtain rfl : code = 0 := by omega
            have htk : fctS st = tkF ⟨ki, ka, ks, kc⟩ st1 := by rw [fctS_tk (by rw [HQ.out]), HQ.out]
            have HTK := Lib.hid htk
            clear htk hcode
            obtain ⟨AA, cc, rfl, hin, hcc1, hcc2, hAA⟩ := OwnL.listIn fct_len (OwnPs.list H3.out.2.2.2)
            have hrdA := rd_alloc H3.out.1 (.cells #[.int .i64 ki, .int .u8 (ka.toNat : Int), .string ks, .int .i64 kc] 30)
            have hKA := Blk.new w3 30 #[.int .i64 ki, .int .u8 (ka.toNat : Int), .string ks, .int .i64 kc]
            have hbA := (Below.refl w3.heap.size w3).alloc (Nat.le_refl _) (.cells #[.int .i64 ki, .int .u8 (ka.toNat : Int), .string ks, .int .i64 kc] 30)
            have HA := Lib.hid (And.intro hrdA (And.intro hKA hbA))
            clear hrdA hKA hbA hin hAA
            obtain ⟨q2, hq2⟩ : ∃ q2, tkF ⟨ki, ka, ks, kc⟩ st1 = q2 := ⟨_, rfl⟩
            have htk2 := tkF_ok (⟨ki, ka, ks, kc⟩ : Ky) st1
            rw [hq2] at htk2
            have HQ2 := Lib.hid hq2
            have HTK2 := Lib.hid htk2
            clear hq2 htk2
            obtain ⟨⟨⟨ai, aa, as', ac⟩, x⟩, code2, st2⟩ := q2
            go_wp2_with fail
            refine (takeF_any HA.out.1 (fun k hk => by have := (H1.out.2.2 k hk).2; simp; omega) (⟨ki, ka, ks, kc⟩ : Ky)).mono ?_
            rintro e w4 ⟨v4, rfl, ho4, hr4, hg4⟩
            rw [HQ2.out] at ho4 hr4 ⊢
            obtain ⟨A4, c4, rfl, _, hl4, hm4, _⟩ := ho4.slice
            dsimp only [fctCells] at ho4 hr4 hl4 ⊢
            have hs4 : w3.heap.size + 1 ≤ w4.heap.size := by have := hg4.size; simpa using this
            have hg34 : w3.grownBy w4 (some g) := grown_from_alloc hg4
            have hK4 := HA.out.2.1.grown hg4 (fun e => by injection e with e; omega)
            have hb4 := H3.out.2.1.grown hg34 H3.out.2.1.size (fun k e => by injection e with e; omega)
            have hv4 : ∀ p ∈ ps, SpB w4 w1.heap.size p.2 p.1.val := fun p hp => (H3.out.2.2.1 p hp).far hg34 (by omega)
            have ho4' : OwnPs fctCells Fct.val (fun c => okKy c.key) 5 32 w4 w1.heap.size (.slice AA j cc) j ps := OwnPs.kept H3.out.2.2.2 hg34 (.inr fun e => by have := (OwnPs.blk H3.out.2.2.2 e).1; omega) (fun p hp => (H3.out.2.2.1 p hp).valB fun k e => by injection e with e; omega)
            obtain ⟨L, hL⟩ : ∃ L, x.length = L := ⟨_, rfl⟩
            rw [hL] at hl4 ho4 ⊢
            have H4 := Lib.hid (And.intro hr4 (And.intro hb4 (And.intro hv4 (And.intro ho4' (And.intro hK4 (And.intro ho4 hL))))))
            clear hr4 hb4 hv4 ho4 ho4' hK4 hg4 hg34
            by_cases hcode2 : code2 ≠ 0
            · have hne2 : ((code2 : Int) != 0) = true := by simp; omega
              have hfin : getLeafS (f :: r) = ([], code2) := by
                have h2 : (fctS st).2.1 = code2 := by rw [HTK.out, HQ2.out]
                have h1 := addG_no (one := fctS) (key := Fct.key) (ps.map (·.1)) k' (lastK Fct.key (ps.map (·.1))) st (by rw [h2]; exact hcode2)
                rw [HX.out.2.2.2.2, h2] at h1
                rw [HRC.out, h1, if_pos hcode2]
              have HF := Lib.hid hfin
              clear hfin hcode2
              go_wp2_with fail
              go_ret2
              rw [HF.out]
              exact ⟨_, rfl, ⟨[], rfl, OwnG.nil _ _⟩, H4.out.2.1.alloc H4.out.2.1.size _⟩
            · obtain rfl : code2 = 0 := by omega
              obtain ⟨hk1, hx1⟩ := HTK2.out rfl
              injection hk1 with e1 e2 e3 e4
              subst e1 e2 e3 e4
              have hst : fctS st = (⟨⟨ai, aa, as', ac⟩, x⟩, 0, st2) := by rw [HTK.out, HQ2.out]
              have HST := Lib.hid (And.intro hst hx1)
              clear hst hx1 hcode2
              have hb45 := (Below.refl w4.heap.size w4).alloc (Nat.le_refl _) (.cells #[.int .i64 ai, .int .u8 (aa.toNat : Int), .string as', .int .i64 ac, .slice A4 L c4] 32)
              have hF5 := Blk.new w4 32 #[.int .i64 ai, .int .u8 (aa.toNat : Int), .string as', .int .i64 ac, .slice A4 L c4]
              have H5 := Lib.hid (And.intro (H4.out.1.below hb45) (And.intro (below_then H4.out.2.1 H4.out.2.1.size hb45) (And.intro (fun p hp => (H4.out.2.2.1 p hp).below hb45 : ∀ p ∈ ps, SpB _ w1.heap.size p.2 p.1.val) (And.intro (OwnPs.below H4.out.2.2.2.1 hb45) (And.intro (H4.out.2.2.2.2.1.below hb45 (by omega)) (And.intro (H4.out.2.2.2.2.2.1.below hb45) hF5))))))
              clear hb45 hF5
              go_wp2_with fail
              have hs5 := alloc_sz w4 (.cells #[.int .i64 ai, .int .u8 (aa.toNat : Int), .string as', .int .i64 ac, .slice A4 L c4] 32)
              generalize w4.alloc (.cells #[.int .i64 ai, .int .u8 (aa.toNat : Int), .string as', .int .i64 ac, .slice A4 L c4] 32) = w5 at *
              obtain ⟨kb, hkb⟩ : ∃ kb, w3.heap.size = kb := ⟨_, rfl⟩
              obtain ⟨fb, hfb⟩ : ∃ fb, w4.heap.size = fb := ⟨_, rfl⟩
              have hkb5 : kb < w5.heap.size := by omega
              have hfb5 : fb < w5.heap.size := by omega
              rw [hkb] at H5 ⊢
              rw [hfb] at H5 ⊢
              have hs5' : w4.heap.size + 1 ≤ w5.heap.size := by omega
              have hkb' : w3.heap.size ≤ kb ∧ kb ≤ w3.heap.size := by omega
              have hfb' : w4.heap.size ≤ fb ∧ fb ≤ w4.heap.size := by omega
              clear hs5 hkb hfb
              rcases Nat.eq_zero_or_pos j with hj0 | hj0
              · have q3 : decide (0 < (j : Int)) = false := decide_eq_false (by omega)
                have q4 : decide (0 < j) = false := decide_eq_false (by omega)
                have hos : stepOk (lastK Fct.key (ps.map (·.1))) (⟨ai, aa, as', ac⟩ : Ky) := by
                  have h1 := H5.out.2.2.2.1.1
                  have : ps = [] := List.eq_nil_of_length_eq_zero (by omega)
                  rw [this]
                  intro q h
                  cases h
                have HJ := Lib.hid hj0
                clear hj0
                have hstep := addG_step (one := fctS) (key := Fct.key) (ps.map (·.1)) k' st (by rw [HST.out.1]) (by rw [HST.out.1]; exact hos)
                rw [HX.out.2.2.2.2, HST.out.1] at hstep
                have HSP := Lib.hid hstep
                clear hstep hos
                have m0 : ∀ p : InC (fun w' => Below w5.heap.size w5 w'), p.w.cell? ⟨kb, 0, none⟩ = some (.int .i64 ai) := fun p => by rw [(H5.out.2.2.2.2.1.below p.h (by omega)).cell]; rfl
                have m1 : ∀ p : InC (fun w' => Below w5.heap.size w5 w'), p.w.cell? ⟨kb, 1, none⟩ = some (.int .u8 (aa.toNat : Int)) := fun p => by rw [(H5.out.2.2.2.2.1.below p.h (by omega)).cell]; rfl
                have m2 : ∀ p : InC (fun w' => Below w5.heap.size w5 w'), p.w.cell? ⟨kb, 2, none⟩ = some (.string as') := fun p => by rw [(H5.out.2.2.2.2.1.below p.h (by omega)).cell]; rfl
                have m3 : ∀ p : InC (fun w' => Below w5.heap.size w5 w'), p.w.cell? ⟨kb, 3, none⟩ = some (.int .i64 ac) := fun p => by rw [(H5.out.2.2.2.2.1.below p.h (by omega)).cell]; rfl
                have hinh : Nonempty (InC (fun w' => Below w5.heap.size w5 w')) := ⟨⟨w5, Below.refl _ _⟩⟩
                refine wp_region_class (fun w' => Below w5.heap.size w5 w') (by kernel_rfl) (by kernel_rfl) (Below.refl _ _).drew ?_
                repeat (go_big_quiet_step (fail))
                refine wpQuiet_nil ?_
                rintro _ ⟨p4', rfl⟩
                clear hinh m0 m1 m2 m3
                have hb6 := p4'.h
                have hs6 := hb6.size
                generalize p4'.w = w6 at hb6 hs6 ⊢
                have hF6 := H5.out.2.2.2.2.2.2.below hb6 (by omega)
                have hF6c := hF6.cell
                have y0 : w6.cell? ⟨fb, 0, none⟩ = some (.int .i64 ai) := by rw [hF6c]; rfl
                have y1 : w6.cell? ⟨fb, 1, none⟩ = some (.int .u8 (aa.toNat : Int)) := by rw [hF6c]; rfl
                have y2 : w6.cell? ⟨fb, 2, none⟩ = some (.string as') := by rw [hF6c]; rfl
                have y3 : w6.cell? ⟨fb, 3, none⟩ = some (.int .i64 ac) := by rw [hF6c]; rfl
                have y4 : w6.cell? ⟨fb, 4, none⟩ = some (.slice A4 L c4) := by rw [hF6c]; rfl
                have ho6 := H5.out.2.2.2.1.below hb6
                have hsp6 : SpB w6 (w3.heap.size + 1) (.slice A4 L c4) x := .inr ⟨HST.out.2, by have := H5.out.2.2.2.2.2.1.below hb6; rw [alloc_sz] at this; exact this⟩
                have hrow : ∀ k, (Value.slice AA j cc).ownBlock = some k → w1.heap.size ≤ k ∧ k < w3.heap.size := fun k hk => OwnPs.blk H3.out.2.2.2 hk
                have hu1 : ValB w6 (Value.slice AA j cc).ownBlock (.slice A4 L c4) x := hsp6.valB fun k hk => by have := (hrow k hk).2; omega
                have hok : okKy (⟨ai, aa, as', ac⟩ : Ky) := Nat.le_trans HN.out (by decide)
                have H6 := Lib.hid (And.intro ho6 (And.intro hsp6 (And.intro hrow (And.intro hu1 (And.intro hok (And.intro (H5.out.1.below hb6) (And.intro (below_then H5.out.2.1 H5.out.2.1.size hb6) (fun p hp => (H5.out.2.2.1 p hp).below hb6 : ∀ p ∈ ps, SpB w6 w1.heap.size p.2 p.1.val))))))))
                clear hF6 hF6c ho6 hsp6 hrow hu1 hok hb6
                go_wp2_with (at_builtin; refine wpList_appP1H (cell := fctCells) (val := Fct.val) (ok := fun c => okKy c.key) (sz := 5) w6 rfl _ _ 24 rfl w1.heap.size 32 ii iz 64 Try.underlying24 hii hiz hi1 hi2 hi3 (by decide) fct_len fct_one (.slice AA j cc) j ps rfl H6.out.1 ⟨⟨ai, aa, as', ac⟩, x⟩ (.slice A4 L c4) w6.heap.size rfl rfl H6.out.2.2.2.2.1 H6.out.2.2.2.1 _ rfl ?_ ?_ ?_ ?_)
                · unfold maxLen; omega
                · omega
                · omega
                intro v7 w7 ho7 hg7 hv7
                have hrow := H6.out.2.2.1
                have hb7 : Below w.heap.size w w7 := H6.out.2.2.2.2.2.2.1.grown hg7 H6.out.2.2.2.2.2.2.1.size (fun k e => by have := (hrow k e).1; have := H1.out.2.1.size; omega)
                have hvs7 : ∀ p ∈ ps ++ [((⟨⟨ai, aa, as', ac⟩, x⟩ : Fct), Value.slice A4 L c4)], SpB w7 w1.heap.size p.2 p.1.val := by
                  intro p hp
                  rcases List.mem_append.1 hp with hp | hp
                  · exact (H6.out.2.2.2.2.2.2.2 p hp).kept (H6.out.1.2.2 p hp).2 hg7
                  · rw [List.mem_singleton] at hp
                    subst hp
                    exact (H6.out.2.1.kept H6.out.2.2.2.1 hg7).lower (by omega)
                have hr7 : Rd w7 g h st2 := H6.out.2.2.2.2.2.1.keep fun k hk hkk => hg7.block k hk fun e => by
                  have h1 := (hrow k e.symm).1
                  rcases hkk with rfl | hkk
                  · omega
                  · have := (H1.out.2.2 k hkk.symm).2
                    omega
                have hs7 := hg7.size
                have H7 := Lib.hid (And.intro ho7 (And.intro hvs7 (And.intro hr7 hb7)))
                clear ho7 hvs7 hr7 hb7 hg7 hv7 hrow
                go_wp2_with fail
                go_roundg k'
                case measure => omega
                case rel => exact ⟨j + 1, _, st2, by omega, by go_num, H7.out.1, H7.out.2.1, H7.out.2.2.1, H7.out.2.2.2, by omega, by rw [List.map_append]; exact HSP.out.symm⟩
              · have q3 : decide (0 < (j : Int)) = true := decide_eq_true (by omega)
                have q4 : decide (0 < j) = true := decide_eq_true (by omega)
                obtain ⟨q, hq⟩ : ∃ q, j = q + 1 := ⟨j - 1, by omega⟩
                have hwm : IntKind.i64.wrap ((j : Int) - 1) = (q : Int) := by rw [hq]; exact (IntWalk.i64_in _ (by omega)).trans (by omega)
                have hmn : (q : Int) < (j : Int) := by omega
                have hlen : (ps.map (·.1)).length = j := by rw [List.length_map]; exact H5.out.2.2.2.1.1
                obtain ⟨x', hx'⟩ : ∃ x, (ps.map (·.1))[q]? = some x := ⟨_, List.getElem?_eq_getElem (by omega)⟩
                obtain ⟨AA', cc', hAA', hin, _, _, _⟩ := OwnL.listIn fct_len (OwnPs.list H5.out.2.2.2.1)
                injection hAA' with hA1 _ hA3
                subst hA1 hA3
                obtain ⟨okx, ad, B', d', hA', _, _, _, hblk', x0, x1, x2, x3, x4⟩ := FctsIn.at_ hin hx'
                subst hA'
                have hlast : lastK Fct.key (ps.map (·.1)) = some x'.key := by
                  unfold lastK
                  rw [List.getLast?_eq_getElem?, hlen, hq, Nat.add_sub_cancel, hx']
                  rfl
                have HXX := Lib.hid (And.intro hlast (And.intro hblk' (And.intro x0 (And.intro x1 (And.intro x2 (And.intro x3 (And.intro x4 hq)))))))
                clear x0 x1 x2 x3 x4 hx' hq hlast hin hlen okx
                obtain ⟨⟨xi, xa, xs, xc⟩, xv⟩ := x'
                dsimp only at HXX
                have HKB := Lib.hid (fun w => beforeK_any w ⟨xi, xa, xs, xc⟩ ⟨ai, aa, as', ac⟩)
                have HKF := Lib.hid (fun w => keyF_any w ⟨xi, xa, xs, xc⟩ (.slice B' xv.length d') ⟨_, _, _, rfl⟩)
                unfold Ky.val at HKB HKF
                dsimp only at HKB HKF
                by_cases hlt' : keyLt ⟨xi, xa, xs, xc⟩ ⟨ai, aa, as', ac⟩
                · have hos : stepOk (lastK Fct.key (ps.map (·.1))) (⟨ai, aa, as', ac⟩ : Ky) := fun q h => by
                    rw [HXX.out.1] at h
                    cases h
                    exact hlt'
                  rw [decide_eq_true hlt'] at HKB
                  clear hlt'
                  have hstep := addG_step (one := fctS) (key := Fct.key) (ps.map (·.1)) k' st (by rw [HST.out.1]) (by rw [HST.out.1]; exact hos)
                  rw [HX.out.2.2.2.2, HST.out.1] at hstep
                  have HSP := Lib.hid hstep
                  clear hstep hos
                  have m0 : ∀ p : InC (fun w' => Below w5.heap.size w5 w'), p.w.cell? ⟨kb, 0, none⟩ = some (.int .i64 ai) := fun p => by rw [(H5.out.2.2.2.2.1.below p.h (by omega)).cell]; rfl
                  have m1 : ∀ p : InC (fun w' => Below w5.heap.size w5 w'), p.w.cell? ⟨kb, 1, none⟩ = some (.int .u8 (aa.toNat : Int)) := fun p => by rw [(H5.out.2.2.2.2.1.below p.h (by omega)).cell]; rfl
                  have m2 : ∀ p : InC (fun w' => Below w5.heap.size w5 w'), p.w.cell? ⟨kb, 2, none⟩ = some (.string as') := fun p => by rw [(H5.out.2.2.2.2.1.below p.h (by omega)).cell]; rfl
                  have m3 : ∀ p : InC (fun w' => Below w5.heap.size w5 w'), p.w.cell? ⟨kb, 3, none⟩ = some (.int .i64 ac) := fun p => by rw [(H5.out.2.2.2.2.1.below p.h (by omega)).cell]; rfl
                  have n0 : ∀ p : InC (fun w' => Below w5.heap.size w5 w'), p.w.cell? (ad.add (q * 5)) = some (.int .i64 xi) := fun p => (World.cell?_of_block (p.h.block _ HXX.out.2.1)).trans HXX.out.2.2.1
                  have n1 : ∀ p : InC (fun w' => Below w5.heap.size w5 w'), p.w.cell? ⟨(ad.add (q * 5)).block, (ad.add (q * 5)).off + 1, none⟩ = some (.int .u8 (xa.toNat : Int)) := fun p => by
                    have e1 := p.h.block _ HXX.out.2.1
                    have e2 : p.w.cell? ⟨(ad.add (q * 5)).block, (ad.add (q * 5)).off + 1, none⟩ = w5.cell? ⟨(ad.add (q * 5)).block, (ad.add (q * 5)).off + 1, none⟩ := World.cell?_of_block e1
                    exact e2.trans HXX.out.2.2.2.1
                  have n2 : ∀ p : InC (fun w' => Below w5.heap.size w5 w'), p.w.cell? ⟨(ad.add (q * 5)).block, (ad.add (q * 5)).off + 2, none⟩ = some (.string xs) := fun p => by
                    have e1 := p.h.block _ HXX.out.2.1
                    have e2 : p.w.cell? ⟨(ad.add (q * 5)).block, (ad.add (q * 5)).off + 2, none⟩ = w5.cell? ⟨(ad.add (q * 5)).block, (ad.add (q * 5)).off + 2, none⟩ := World.cell?_of_block e1
                    exact e2.trans HXX.out.2.2.2.2.1
                  have n3 : ∀ p : InC (fun w' => Below w5.heap.size w5 w'), p.w.cell? ⟨(ad.add (q * 5)).block, (ad.add (q * 5)).off + 3, none⟩ = some (.int .i64 xc) := fun p => by
                    have e1 := p.h.block _ HXX.out.2.1
                    have e2 : p.w.cell? ⟨(ad.add (q * 5)).block, (ad.add (q * 5)).off + 3, none⟩ = w5.cell? ⟨(ad.add (q * 5)).block, (ad.add (q * 5)).off + 3, none⟩ := World.cell?_of_block e1
                    exact e2.trans HXX.out.2.2.2.2.2.1
                  have n4 : ∀ p : InC (fun w' => Below w5.heap.size w5 w'), p.w.cell? ⟨(ad.add (q * 5)).block, (ad.add (q * 5)).off + 4, none⟩ = some (.slice B' xv.length d') := fun p => by
                    have e1 := p.h.block _ HXX.out.2.1
                    have e2 : p.w.cell? ⟨(ad.add (q * 5)).block, (ad.add (q * 5)).off + 4, none⟩ = w5.cell? ⟨(ad.add (q * 5)).block, (ad.add (q * 5)).off + 4, none⟩ := World.cell?_of_block e1
                    exact e2.trans HXX.out.2.2.2.2.2.2.1
                  have hinh : Nonempty (InC (fun w' => Below w5.heap.size w5 w')) := ⟨⟨w5, Below.refl _ _⟩⟩
                  refine wp_region_class (fun w' => Below w5.heap.size w5 w') (by kernel_rfl) (by kernel_rfl) (Below.refl _ _).drew ?_
                  repeat (go_big_quiet_step (first | (go_at_call 28; rename_i p; exact class_call (HKF.out _) (fun _ hb => below_then p.h p.h.size hb)) | (go_at_call 37; rename_i p; exact class_call (HKB.out _) (fun _ hb => below_then p.h p.h.size hb))))
                  refine wpQuiet_nil ?_
                  rintro _ ⟨p4', rfl⟩
                  clear hinh m0 m1 m2 m3 n0 n1 n2 n3 n4
                  have hb6 := p4'.h
                  have hs6 := hb6.size
                  generalize p4'.w = w6 at hb6 hs6 ⊢
                  have hF6 := H5.out.2.2.2.2.2.2.below hb6 (by omega)
                  have hF6c := hF6.cell
                  have y0 : w6.cell? ⟨fb, 0, none⟩ = some (.int .i64 ai) := by rw [hF6c]; rfl
                  have y1 : w6.cell? ⟨fb, 1, none⟩ = some (.int .u8 (aa.toNat : Int)) := by rw [hF6c]; rfl
                  have y2 : w6.cell? ⟨fb, 2, none⟩ = some (.string as') := by rw [hF6c]; rfl
                  have y3 : w6.cell? ⟨fb, 3, none⟩ = some (.int .i64 ac) := by rw [hF6c]; rfl
                  have y4 : w6.cell? ⟨fb, 4, none⟩ = some (.slice A4 L c4) := by rw [hF6c]; rfl
                  have ho6 := H5.out.2.2.2.1.below hb6
                  have hsp6 : SpB w6 (w3.heap.size + 1) (.slice A4 L c4) x := .inr ⟨HST.out.2, by have := H5.out.2.2.2.2.2.1.below hb6; rw [alloc_sz] at this; exact this⟩
                  have hrow : ∀ k, (Value.slice (some ad) j cc).ownBlock = some k → w1.heap.size ≤ k ∧ k < w3.heap.size := fun k hk => OwnPs.blk H3.out.2.2.2 hk
                  have hu1 : ValB w6 (Value.slice (some ad) j cc).ownBlock (.slice A4 L c4) x := hsp6.valB fun k hk => by have := (hrow k hk).2; omega
                  have hok : okKy (⟨ai, aa, as', ac⟩ : Ky) := Nat.le_trans HN.out (by decide)
                  have H6 := Lib.hid (And.intro ho6 (And.intro hsp6 (And.intro hrow (And.intro hu1 (And.intro hok (And.intro (H5.out.1.below hb6) (And.intro (below_then H5.out.2.1 H5.out.2.1.size hb6) (fun p hp => (H5.out.2.2.1 p hp).below hb6 : ∀ p ∈ ps, SpB w6 w1.heap.size p.2 p.1.val))))))))
                  clear hF6 hF6c ho6 hsp6 hrow hu1 hok hb6
                  go_wp2_with (at_builtin; refine wpList_appP1H (cell := fctCells) (val := Fct.val) (ok := fun c => okKy c.key) (sz := 5) w6 rfl _ _ 24 rfl w1.heap.size 32 ii iz 64 Try.underlying24 hii hiz hi1 hi2 hi3 (by decide) fct_len fct_one (.slice (some ad) j cc) j ps rfl H6.out.1 ⟨⟨ai, aa, as', ac⟩, x⟩ (.slice A4 L c4) w6.heap.size rfl rfl H6.out.2.2.2.2.1 H6.out.2.2.2.1 _ rfl ?_ ?_ ?_ ?_)
                  · unfold maxLen; omega
                  · omega
                  · omega
                  intro v7 w7 ho7 hg7 hv7
                  have hrow := H6.out.2.2.1
                  have hb7 : Below w.heap.size w w7 := H6.out.2.2.2.2.2.2.1.grown hg7 H6.out.2.2.2.2.2.2.1.size (fun k e => by have := (hrow k e).1; have := H1.out.2.1.size; omega)
                  have hvs7 : ∀ p ∈ ps ++ [((⟨⟨ai, aa, as', ac⟩, x⟩ : Fct), Value.slice A4 L c4)], SpB w7 w1.heap.size p.2 p.1.val := by
                    intro p hp
                    rcases List.mem_append.1 hp with hp | hp
                    · exact (H6.out.2.2.2.2.2.2.2 p hp).kept (H6.out.1.2.2 p hp).2 hg7
                    · rw [List.mem_singleton] at hp
                      subst hp
                      exact (H6.out.2.1.kept H6.out.2.2.2.1 hg7).lower (by omega)
                  have hr7 : Rd w7 g h st2 := H6.out.2.2.2.2.2.1.keep fun k hk hkk => hg7.block k hk fun e => by
                    have h1 := (hrow k e.symm).1
                    rcases hkk with rfl | hkk
                    · omega
                    · have := (H1.out.2.2 k hkk.symm).2
                      omega
                  have hs7 := hg7.size
                  have H7 := Lib.hid (And.intro ho7 (And.intro hvs7 (And.intro hr7 hb7)))
                  clear ho7 hvs7 hr7 hb7 hg7 hv7 hrow
                  go_wp2_with fail
                  go_roundg k'
                  case measure => omega
                  case rel => exact ⟨j + 1, _, st2, by omega, by go_num, H7.out.1, H7.out.2.1, H7.out.2.2.1, H7.out.2.2.2, by omega, by rw [List.map_append]; exact HSP.out.symm⟩
                · have hos : ¬ stepOk (lastK Fct.key (ps.map (·.1))) (⟨ai, aa, as', ac⟩ : Ky) := fun h => hlt' (h _ HXX.out.1)
                  rw [decide_eq_false hlt'] at HKB
                  have hfin : getLeafS (f :: r) = ([], 5) := by
                    have h1 := addG_bad (one := fctS) (key := Fct.key) (ps.map (·.1)) k' (lastK Fct.key (ps.map (·.1))) st (by rw [HST.out.1]) (by rw [HST.out.1]; exact hos)
                    rw [HX.out.2.2.2.2] at h1
                    rw [HRC.out, h1, if_pos (by decide)]
                  have HF := Lib.hid hfin
                  clear hfin hlt' hos
                  have m0 : ∀ p : InC (fun w' => Below w5.heap.size w5 w'), p.w.cell? ⟨kb, 0, none⟩ = some (.int .i64 ai) := fun p => by rw [(H5.out.2.2.2.2.1.below p.h (by omega)).cell]; rfl
                  have m1 : ∀ p : InC (fun w' => Below w5.heap.size w5 w'), p.w.cell? ⟨kb, 1, none⟩ = some (.int .u8 (aa.toNat : Int)) := fun p => by rw [(H5.out.2.2.2.2.1.below p.h (by omega)).cell]; rfl
                  have m2 : ∀ p : InC (fun w' => Below w5.heap.size w5 w'), p.w.cell? ⟨kb, 2, none⟩ = some (.string as') := fun p => by rw [(H5.out.2.2.2.2.1.below p.h (by omega)).cell]; rfl
                  have m3 : ∀ p : InC (fun w' => Below w5.heap.size w5 w'), p.w.cell? ⟨kb, 3, none⟩ = some (.int .i64 ac) := fun p => by rw [(H5.out.2.2.2.2.1.below p.h (by omega)).cell]; rfl
                  have n0 : ∀ p : InC (fun w' => Below w5.heap.size w5 w'), p.w.cell? (ad.add (q * 5)) = some (.int .i64 xi) := fun p => (World.cell?_of_block (p.h.block _ HXX.out.2.1)).trans HXX.out.2.2.1
                  have n1 : ∀ p : InC (fun w' => Below w5.heap.size w5 w'), p.w.cell? ⟨(ad.add (q * 5)).block, (ad.add (q * 5)).off + 1, none⟩ = some (.int .u8 (xa.toNat : Int)) := fun p => by
                    have e1 := p.h.block _ HXX.out.2.1
                    have e2 : p.w.cell? ⟨(ad.add (q * 5)).block, (ad.add (q * 5)).off + 1, none⟩ = w5.cell? ⟨(ad.add (q * 5)).block, (ad.add (q * 5)).off + 1, none⟩ := World.cell?_of_block e1
                    exact e2.trans HXX.out.2.2.2.1
                  have n2 : ∀ p : InC (fun w' => Below w5.heap.size w5 w'), p.w.cell? ⟨(ad.add (q * 5)).block, (ad.add (q * 5)).off + 2, none⟩ = some (.string xs) := fun p => by
                    have e1 := p.h.block _ HXX.out.2.1
                    have e2 : p.w.cell? ⟨(ad.add (q * 5)).block, (ad.add (q * 5)).off + 2, none⟩ = w5.cell? ⟨(ad.add (q * 5)).block, (ad.add (q * 5)).off + 2, none⟩ := World.cell?_of_block e1
                    exact e2.trans HXX.out.2.2.2.2.1
                  have n3 : ∀ p : InC (fun w' => Below w5.heap.size w5 w'), p.w.cell? ⟨(ad.add (q * 5)).block, (ad.add (q * 5)).off + 3, none⟩ = some (.int .i64 xc) := fun p => by
                    have e1 := p.h.block _ HXX.out.2.1
                    have e2 : p.w.cell? ⟨(ad.add (q * 5)).block, (ad.add (q * 5)).off + 3, none⟩ = w5.cell? ⟨(ad.add (q * 5)).block, (ad.add (q * 5)).off + 3, none⟩ := World.cell?_of_block e1
                    exact e2.trans HXX.out.2.2.2.2.2.1
                  have n4 : ∀ p : InC (fun w' => Below w5.heap.size w5 w'), p.w.cell? ⟨(ad.add (q * 5)).block, (ad.add (q * 5)).off + 4, none⟩ = some (.slice B' xv.length d') := fun p => by
                    have e1 := p.h.block _ HXX.out.2.1
                    have e2 : p.w.cell? ⟨(ad.add (q * 5)).block, (ad.add (q * 5)).off + 4, none⟩ = w5.cell? ⟨(ad.add (q * 5)).block, (ad.add (q * 5)).off + 4, none⟩ := World.cell?_of_block e1
                    exact e2.trans HXX.out.2.2.2.2.2.2.1
                  have hinh : Nonempty (InC (fun w' => Below w5.heap.size w5 w')) := ⟨⟨w5, Below.refl _ _⟩⟩
                  refine wp_region_class (fun w' => Below w5.heap.size w5 w') (by kernel_rfl) (by kernel_rfl) (Below.refl _ _).drew ?_
                  repeat (go_big_quiet_step (first | (go_at_call 28; rename_i p; exact class_call (HKF.out _) (fun _ hb => below_then p.h p.h.size hb)) | (go_at_call 37; rename_i p; exact class_call (HKB.out _) (fun _ hb => below_then p.h p.h.size hb))))
                  refine wpQuiet_nil ?_
                  rintro _ ⟨p4', rfl⟩
                  clear hinh m0 m1 m2 m3 n0 n1 n2 n3 n4
                  have hb6 := p4'.h
                  have hs6 := hb6.size
                  generalize p4'.w = w6 at hb6 hs6 ⊢
                  go_wp2_with fail
                  go_ret2
                  rw [HF.out]
                  exact ⟨_, rfl, ⟨[], rfl, OwnG.nil _ _⟩, below_then H5.out.2.1 H5.out.2.1.size hb6⟩
        · obtain rfl : j = F := by omega
          obtain rfl : gk = 0 := by omega
          have hge : ¬ (j : Int) < (j : Int) := by omega
          have hgo : lsGo fctS Fct.key j none (some r) = (ps.map (·.1), 0, st) := by rw [← HX.out.2.2.2.2]; unfold addG lsGo; simp
          by_cases hl : 0 < leftS st
          · have hfin : getLeafS (f :: r) = ([], 5) := by rw [HRC.out, hgo]; simp [hl]
            have hl' : 0 < (leftS st : Int) := by omega
            have HF := Lib.hid hfin
            clear hfin hl hgo
            go_wp2_with (go_at_call 51; refine (left_any HX.out.2.2.1).mono ?_; rintro e w4 ⟨rfl, rfl⟩)
            go_ret2
            rw [HF.out]
            exact ⟨_, rfl, ⟨[], rfl, OwnG.nil _ _⟩, HX.out.2.2.2.1⟩
          · have hfin : getLeafS (f :: r) = (ps.map (·.1), 0) := by rw [HRC.out, hgo]; simp; omega
            have hl' : ¬ 0 < (leftS st : Int) := by omega
            have HF := Lib.hid hfin
            clear hfin hl hgo
            obtain ⟨g', c', rfl, hc1, hc2, hown⟩ := OwnPs.handed fct_len HX.out.1 HX.out.2.1 (by omega)
            have HO := Lib.hid (hown j (Nat.le_refl _) (by omega))
            have hn : (ps.map (·.1)).length = j := by rw [List.length_map]; exact HX.out.1.1
            have HN := Lib.hid hn
            clear hown hn
            go_wp2_with (go_at_call 51; refine (left_any HX.out.2.2.1).mono ?_; rintro e w4 ⟨rfl, rfl⟩)
            go_ret2
            rw [HF.out]
            exact ⟨_, rfl, ⟨ps, rfl, by rw [HN.out]; exact HO.out.lower (by have := H1.out.2.1.size; omega)⟩, HX.out.2.2.2.1⟩
end Go.Proofs.Ytegoeagmadhpgaa

/- Layer 15: what stands behind a child's key: contract. -/
namespace Go.Proofs.Ytegoeagmadhpgaa
open Go.RowKit

theorem Blk.set6c {w : World} {g : Nat} {t : TypeId} {a b c d e f : Value} (h : Blk w g t #[a, b, c, d, e, f]) (a' b' c' d' e' f' : Value) :
    Blk ((((((w.setCell ⟨g, 0, none⟩ a').setCell ⟨g, 1, none⟩ b').setCell ⟨g, 2, none⟩ c').setCell ⟨g, 3, none⟩ d').setCell ⟨g, 4, none⟩ e').setCell ⟨g, 5, none⟩ f') g t #[a', b', c', d', e', f'] := by
  have := (((((h.set_ 0 a').set_ 1 b').set_ 2 c').set_ 3 d').set_ 4 e').set_ 5 f'
  simpa using this
theorem grown_set6c {w w2 : World} {row : Option Nat} (h : w.grownBy w2 row) {R : Nat} (hR : w.heap.size ≤ R) (a b c d e f : Value) :
    w.grownBy ((((((w2.setCell ⟨R, 0, none⟩ a).setCell ⟨R, 1, none⟩ b).setCell ⟨R, 2, none⟩ c).setCell ⟨R, 3, none⟩ d).setCell ⟨R, 4, none⟩ e).setCell ⟨R, 5, none⟩ f) row :=
  grown_new_set (grown_set5 h hR a b c d e) hR f
theorem rd_set6c {w : World} {g : Nat} {h : Option Nat} {st : Option (List UInt8)} (r : Rd w g h st) {R : Nat} (hg : g ≠ R) (hh : ∀ k, h = some k → k ≠ R) (a b c d e f : Value) :
    Rd ((((((w.setCell ⟨R, 0, none⟩ a).setCell ⟨R, 1, none⟩ b).setCell ⟨R, 2, none⟩ c).setCell ⟨R, 3, none⟩ d).setCell ⟨R, 4, none⟩ e).setCell ⟨R, 5, none⟩ f) g h st :=
  rd_far1 (rd_set5 r hg hh a b c d e) hg hh f
/-- Behind a key: a child, an error, what is left. -/
def tkC (k : Ky) (st : Option (List UInt8)) : Chd × Nat × Option (List UInt8) :=
  if (takeS st 1).2.1 ≠ 0 then (Chd.zero, (takeS st 1).2.1, (takeS st 1).2.2)
  else if (takeS (takeS st 1).2.2 1).2.1 ≠ 0 then (Chd.zero, (takeS (takeS st 1).2.2 1).2.1, (takeS (takeS st 1).2.2 1).2.2)
  else (⟨k, (takeS st 1).1, (takeS (takeS st 1).2.2 1).1⟩, 0, (takeS (takeS st 1).2.2 1).2.2)
def TakeCEnd (w : World) (g : Nat) (h : Option Nat) (r : Chd × Nat × Option (List UInt8)) (e : Ending) (w' : World) : Prop :=
  e = .returned (.tuple #[.agg (chdCells r.1 (.slice none 0 0)).toArray, .int .i64 (r.2.1 : Int)]) ∧ Rd w' g h r.2.2 ∧ w.grownBy w' (some g)
theorem takeS1_none {st : Option (List UInt8)} (h : ∀ f r, st ≠ some (f :: r)) : takeS st 1 = (0, 4, none) := by
  cases st with
  | none => rfl
  | some l =>
    cases l with
    | nil => rfl
    | cons f r => exact absurd rfl (h f r)
theorem takeS1_cons (f : UInt8) (r : List UInt8) : takeS (some (f :: r)) 1 = (f.toNat, 0, some r) := by simp [takeS, leval]
theorem st_cases (st : Option (List UInt8)) : (∃ f r, st = some (f :: r)) ∨ ∀ f r, st ≠ some (f :: r) := by
  cases st with
  | none => exact .inr fun _ _ h => by cases h
  | some l =>
    cases l with
    | nil => exact .inr fun _ _ h => by cases h
    | cons f r => exact .inl ⟨f, r, rfl⟩

set_option maxRecDepth 100000 in
set_option maxHeartbeats 2000000 in
theorem takeC_any {w : World} {g : Nat} {h : Option Nat} {st : Option (List UInt8)} (r0 : Rd w g h st) (hh : ∀ k, h = some k → k < w.heap.size) (k : Ky) :
    Calls Try.prog 47 #[.agg #[], .pointer (some ⟨g, 0, none⟩), k.val] w (TakeCEnd w g h (tkC k st)) := by
  obtain ⟨R, hR⟩ : ∃ R, tkC k st = R := ⟨_, rfl⟩
  rw [hR]
  obtain ⟨fi, fa, fs, fc⟩ := k
  unfold Ky.val
  dsimp only
  have hgw := r0.lt
  have HR0 := Lib.hid (And.intro r0 (And.intro hh hR))
  clear r0 hh hR
  have hbel : Below w.heap.size w (((w.alloc (.cells #[] 52)).alloc (.cells #[.int .i64 fi, .int .u8 (fa.toNat : Int), .string fs, .int .i64 fc] 30)).alloc (.cells #[.int .i64 0, .int .u8 0, .string ⟨#[]⟩, .int .i64 0, .int .i64 0, .int .i64 0] 73)) := (((Below.refl _ _).alloc (Nat.le_refl _) _).alloc (by simp) _).alloc (by simp; omega) _
  have hK := (Blk.new (w.alloc (.cells #[] 52)) 30 #[.int .i64 fi, .int .u8 (fa.toNat : Int), .string fs, .int .i64 fc]).alloc (.cells #[.int .i64 0, .int .u8 0, .string ⟨#[]⟩, .int .i64 0, .int .i64 0, .int .i64 0] 73)
  have hZ := Blk.new ((w.alloc (.cells #[] 52)).alloc (.cells #[.int .i64 fi, .int .u8 (fa.toNat : Int), .string fs, .int .i64 fc] 30)) 73 #[.int .i64 0, .int .u8 0, .string ⟨#[]⟩, .int .i64 0, .int .i64 0, .int .i64 0]
  simp only [alloc_sz] at hZ hK
  have H0 := Lib.hid (And.intro (HR0.out.1.below hbel) (And.intro hK (And.intro hZ (And.intro HR0.out.2.1 (grown_of_below hbel (some g))))))
  clear hbel hK hZ
  go_enter Try.func47, Try.ntmps47
  go_wp2_with fail
  refine (take_any (s := 1) H0.out.1 (.inl rfl)).mono ?_
  rintro e w1 ⟨rfl, hr1, hg1⟩
  have hK1 := H0.out.2.1.grown hg1 (fun e => by injection e with e; omega)
  have hZ1 := H0.out.2.2.1.grown hg1 (fun e => by injection e with e; omega)
  have hg2 := grown_trans H0.out.2.2.2.2 hg1
  have hs1 := hZ1.lt
  rcases st_cases st with ⟨f1, r1, rfl⟩ | hst
  · rw [takeS1_cons] at hr1 ⊢
    dsimp only at hr1 ⊢
    have hf1 := f1.toNat_lt
    have H1 := Lib.hid (And.intro hr1 (And.intro hK1 (And.intro hZ1 hg2)))
    clear hr1 hK1 hZ1 hg1 hg2
    go_wp2_with fail
    refine (take_any (s := 1) H1.out.1 (.inl rfl)).mono ?_
    rintro e w2 ⟨rfl, hr2, hg3⟩
    have hK2 := H1.out.2.1.grown hg3 (fun e => by injection e with e; omega)
    have hZ2 := H1.out.2.2.1.grown hg3 (fun e => by injection e with e; omega)
    have hg4 := grown_trans H1.out.2.2.2 hg3
    have hs2 := hZ2.lt
    have k0 := hK2.cell 0
    have k1 := hK2.cell 1
    have k2 := hK2.cell 2
    have k3 := hK2.cell 3
    simp at k0 k1 k2 k3
    have z0 := hZ2.cell 0
    have q0 := hZ2.frozen 0
    have z1 := hZ2.cell 1
    have q1 := hZ2.frozen 1
    have z2 := hZ2.cell 2
    have q2 := hZ2.frozen 2
    have z3 := hZ2.cell 3
    have q3 := hZ2.frozen 3
    have z4 := hZ2.cell 4
    have q4 := hZ2.frozen 4
    have z5 := hZ2.cell 5
    have q5 := hZ2.frozen 5
    simp at z0 z1 z2 z3 z4 z5
    rcases st_cases (some r1) with ⟨f2, r2, hr1'⟩ | hst
    · injection hr1' with hr1'
      subst hr1'
      rw [takeS1_cons] at hr2 ⊢
      dsimp only at hr2 ⊢
      have hf2 := f2.toNat_lt
      have hres := HR0.out.2.2
      unfold tkC at hres
      rw [takeS1_cons] at hres
      dsimp only at hres
      rw [takeS1_cons, if_neg (by simp), if_neg (by simp)] at hres
      have HF := Lib.hid hres
      have H2 := Lib.hid (And.intro hr2 (And.intro hZ2 hg4))
      clear hr2 hK2 hZ2 hg3 hg4 hres
      go_wp2_with fail
      rw [← HF.out]
      refine post_cell2 Try.results47 Try.underlying73 rfl _ rfl (H2.out.2.1.set6c _ _ _ _ _ _) (by kernel_rfl) ?_
      exact ⟨rfl, rd_set6c H2.out.1 (by omega) (fun k hk => by have := H0.out.2.2.2.1 k hk; omega) _ _ _ _ _ _, grown_set6c H2.out.2.2 (by omega) _ _ _ _ _ _⟩
    · rw [takeS1_none hst] at hr2 ⊢
      dsimp only at hr2 ⊢
      have hres := HR0.out.2.2
      unfold tkC at hres
      rw [takeS1_cons] at hres
      dsimp only at hres
      rw [takeS1_none hst, if_neg (by simp), if_pos (by simp)] at hres
      have HF := Lib.hid hres
      have H2 := Lib.hid (And.intro hr2 (And.intro hZ2 hg4))
      clear hr2 hK2 hZ2 hg3 hg4 hres hst k0 k1 k2 k3
      go_wp2_with fail
      rw [← HF.out]
      refine post_cell2 Try.results47 Try.underlying73 rfl _ rfl (H2.out.2.1.set6c _ _ _ _ _ _) (by kernel_rfl) ?_
      exact ⟨rfl, rd_set6c H2.out.1 (by omega) (fun k hk => by have := H0.out.2.2.2.1 k hk; omega) _ _ _ _ _ _, grown_set6c H2.out.2.2 (by omega) _ _ _ _ _ _⟩
  · rw [takeS1_none hst] at hr1 ⊢
    dsimp only at hr1 ⊢
    have z0 := hZ1.cell 0
    have q0 := hZ1.frozen 0
    have z1 := hZ1.cell 1
    have q1 := hZ1.frozen 1
    have z2 := hZ1.cell 2
    have q2 := hZ1.frozen 2
    have z3 := hZ1.cell 3
    have q3 := hZ1.frozen 3
    have z4 := hZ1.cell 4
    have q4 := hZ1.frozen 4
    have z5 := hZ1.cell 5
    have q5 := hZ1.frozen 5
    simp at z0 z1 z2 z3 z4 z5
    have hres := HR0.out.2.2
    unfold tkC at hres
    rw [takeS1_none hst, if_pos (by simp)] at hres
    have HF := Lib.hid hres
    have H2 := Lib.hid (And.intro hr1 (And.intro hZ1 hg2))
    clear hr1 hK1 hZ1 hg1 hg2 hres hst
    go_wp2_with fail
    rw [← HF.out]
    refine post_cell2 Try.results47 Try.underlying73 rfl _ rfl (H2.out.2.1.set6c _ _ _ _ _ _) (by kernel_rfl) ?_
    exact ⟨rfl, rd_set6c H2.out.1 (by omega) (fun k hk => by have := H0.out.2.2.2.1 k hk; omega) _ _ _ _ _ _, grown_set6c H2.out.2.2 (by omega) _ _ _ _ _ _⟩
end Go.Proofs.Ytegoeagmadhpgaa

/- Layer 15: a list of children that is read: contract. -/
namespace Go.Proofs.Ytegoeagmadhpgaa
open Go.RowKit

theorem chdS_tk {st : Option (List UInt8)} (h : (getKeyS st).2.1 = 0) : chdS st = tkC (getKeyS st).1 (getKeyS st).2.2 := by
  unfold chdS tkC
  rw [if_neg (by omega)]
theorem chdS_no {st : Option (List UInt8)} (h : (getKeyS st).2.1 ≠ 0) : chdS st = (Chd.zero, (getKeyS st).2.1, (getKeyS st).2.2) := by
  unfold chdS
  rw [if_pos h]
theorem tkC_ok (k : Ky) (st : Option (List UInt8)) (h : (tkC k st).2.1 = 0) : (tkC k st).1.key = k := by
  unfold tkC at h ⊢
  split at h
  · rename_i h1
    exact absurd h h1
  · rename_i h1
    split at h
    · rename_i h2
      exact absurd h h2
    · rename_i h2
      rw [if_neg h1, if_neg h2]
theorem keyC_any (w : World) (k : Ky) (b p : Int) : Calls Try.prog 46 #[.agg #[.int .i64 k.ino, .int .u8 (k.what.toNat : Int), .string k.name, .int .i64 k.chunk, .int .i64 b, .int .i64 p]] w fun e w' => e = .returned k.val ∧ Below w.heap.size w w' := by
  obtain ⟨fi, fa, fs, fc⟩ := k
  unfold Ky.val
  dsimp only
  go_enter Try.func46, Try.ntmps46
  go_wp2_with fail
  refine post_cell1 Try.results46 Try.underlying30 rfl _ rfl (by have := Blk.new (w.alloc (.cells #[.int .i64 fi, .int .u8 (fa.toNat : Int), .string fs, .int .i64 fc, .int .i64 b, .int .i64 p] 73)) 30 #[.int .i64 fi, .int .u8 (fa.toNat : Int), .string fs, .int .i64 fc]; rw [alloc_sz] at this; exact this) (by kernel_rfl) ?_
  exact ⟨rfl, ((Below.refl _ _).alloc (Nat.le_refl _) _).alloc (by simp) _⟩
def LsCEnd (w : World) (r : List Chd × Nat) (e : Ending) (w' : World) : Prop :=
  ∃ v, e = .returned (.tuple #[v, .int .i64 (r.2 : Int)]) ∧ (∃ ps : List (Chd × Value), ps.map (·.1) = r.1 ∧ OwnCG w' w.heap.size v r.1.length ps) ∧ Below w.heap.size w w'

set_option maxRecDepth 100000 in
set_option maxHeartbeats 4000000 in
theorem listC_any (w : World) (A : Option Addr) (c : Nat) (xs : List UInt8) (hr : RV w A (bv xs)) (hx : xs.length ≤ 140737488355328) :
    Calls Try.prog 45 #[.slice A xs.length c, .func (.func 46) #[] #[], .func (.func 47) #[.agg #[]] #[]] w (LsCEnd w (getInnerS xs)) := by
  have HR := Lib.hid hr
  clear hr
  obtain ⟨ii, iz, hii, hiz, hi1, hi2, hi3⟩ := chd_info'
  cases xs with
  | nil =>
    go_enter Try.func45, Try.ntmps45
    go_wp2_with fail
    refine (new_any w A c [] HR.out hx).mono ?_
    rintro e w1 ⟨g, h, rfl, hrd, hb1, hg1, hg2, hh⟩
    have H1 := Lib.hid (And.intro hrd hb1)
    clear hrd hb1 hh
    go_wp2_with fail
    refine (take_any (s := 1) H1.out.1 (.inl rfl)).mono ?_
    rintro e w2 ⟨rfl, hr2, hg3⟩
    rw [show takeS (some []) 1 = (0, 4, none) from rfl]
    dsimp only
    have hbw : Below w.heap.size w w2 := H1.out.2.grown hg3 H1.out.2.size (fun k e => by injection e with e; omega)
    have H2 := Lib.hid hbw
    clear hr2 hg3 hbw
    go_wp2_with fail
    go_ret2
    exact ⟨_, rfl, ⟨[], rfl, OwnG.nil _ _⟩, H2.out⟩
  | cons f r =>
    have ht : takeS (some (f :: r)) 1 = (f.toNat, 0, some r) := by simp [takeS, leval]
    have HT := Lib.hid ht
    have hf := f.toNat_lt
    clear ht
    by_cases h0 : f.toNat = 0
    · go_enter Try.func45, Try.ntmps45
      go_wp2_with fail
      refine (new_any w A c (f :: r) HR.out hx).mono ?_
      rintro e w1 ⟨g, h, rfl, hrd, hb1, hg1, hg2, hh⟩
      have H1 := Lib.hid (And.intro hrd hb1)
      clear hrd hb1 hh
      go_wp2_with fail
      refine (take_any (s := 1) H1.out.1 (.inl rfl)).mono ?_
      rintro e w2 ⟨rfl, hr2, hg3⟩
      rw [HT.out, h0]
      dsimp only
      have hbw : Below w.heap.size w w2 := H1.out.2.grown hg3 H1.out.2.size (fun k e => by injection e with e; omega)
      have hfin : getInnerS (f :: r) = ([], 5) := by unfold getInnerS lsS; dsimp only; rw [if_pos h0]
      have H2 := Lib.hid (And.intro hbw hfin)
      clear hr2 hg3 hbw hfin h0
      go_wp2_with fail
      go_ret2
      rw [H2.out.2]
      exact ⟨_, rfl, ⟨[], rfl, OwnG.nil _ _⟩, H2.out.1⟩
    · go_enter Try.func45, Try.ntmps45
      go_wp2_with fail
      refine (new_any w A c (f :: r) HR.out hx).mono ?_
      rintro e w1 ⟨g, h, rfl, hrd, hb1, hg1, hg2, hh⟩
      have H1 := Lib.hid (And.intro hrd (And.intro hb1 hh))
      clear hrd hb1 hh
      go_wp2_with fail
      refine (take_any (s := 1) H1.out.1 (.inl rfl)).mono ?_
      rintro e w2 ⟨rfl, hr2, hg3⟩
      rw [HT.out] at hr2 ⊢
      dsimp only at hr2 ⊢
      have hbw : Below w.heap.size w w2 := H1.out.2.1.grown hg3 H1.out.2.1.size (fun k e => by injection e with e; omega)
      have hs2 := hg3.size
      have H2 := Lib.hid (And.intro hr2 hbw)
      clear hr2 hbw hg3
      have hne : ((f.toNat : Int) == 0) = false := beq_eq_false_iff_ne.2 (by omega)
      obtain ⟨F, hF⟩ : ∃ F, f.toNat = F := ⟨_, rfl⟩
      have hrec : getInnerS (f :: r) = if (lsGo chdS Chd.key F none (some r)).2.1 ≠ 0 then ([], (lsGo chdS Chd.key F none (some r)).2.1) else if 0 < leftS (lsGo chdS Chd.key F none (some r)).2.2 then ([], 5) else ((lsGo chdS Chd.key F none (some r)).1, 0) := by
        unfold getInnerS lsS
        dsimp only
        rw [if_neg h0, hF]
      rw [hF] at hf hne h0 ⊢
      have hF0 : 0 < F := by omega
      have HRC := Lib.hid hrec
      clear hrec hF h0
      go_wp2_with fail
      go_loopg [11, 30] F (fun k v i wr => ∃ (j : Nat) (ps : List (Chd × Value)) (st : Option (List UInt8)), j + k = F ∧ i = .int .u64 j ∧ OwnPs chdCells Chd.val (fun c => okKy c.key) 6 73 wr w1.heap.size v j ps ∧
        (∀ p ∈ ps, SpB wr w1.heap.size p.2 p.1.val) ∧ Rd wr g h st ∧ Below w.heap.size w wr ∧ w1.heap.size ≤ wr.heap.size ∧ addG (ps.map (·.1)) (lsGo chdS Chd.key k (lastK Chd.key (ps.map (·.1))) st) = lsGo chdS Chd.key F none (some r))
      case atStart => exact ⟨0, [], some r, by omega, rfl, OwnPs.nil _ _ _, (fun _ hp => by cases hp), H2.out.1, H2.out.2, hs2, addG_nil _ _ _⟩
      case round =>
        obtain ⟨j, ps, st, hj, rfl, ho, hvs, hrd, hb, hsz, heq⟩ := hrel
        have HX := Lib.hid (And.intro ho (And.intro hvs (And.intro hrd (And.intro hb heq))))
        clear ho hvs hrd hb heq
        by_cases hlt : j < F
        · obtain ⟨k', rfl⟩ : ∃ k', gk = k' + 1 := ⟨gk - 1, by omega⟩
          have hnm := getKeyS_name st
          obtain ⟨q, hq⟩ : ∃ q, getKeyS st = q := ⟨_, rfl⟩
          rw [hq] at hnm
          have HQ := Lib.hid hq
          clear hq
          obtain ⟨⟨ki, ka, ks, kc⟩, code, st1⟩ := q
          dsimp only at hnm
          have HN := Lib.hid hnm
          clear hnm
          go_wp2_with fail
          refine (getKey_any HX.out.2.2.1 (fun k hk => by have := (H1.out.2.2 k hk).2; omega)).mono ?_
          rintro e w3 ⟨rfl, hr3, hg3⟩
          rw [HQ.out] at hr3 ⊢
          unfold Ky.val
          dsimp only at hr3 ⊢
          have hs3 := hg3.size
          have hb3 := HX.out.2.2.2.1.grown hg3 HX.out.2.2.2.1.size (fun k e => by injection e with e; omega)
          have hv3 : ∀ p ∈ ps, SpB w3 w1.heap.size p.2 p.1.val := fun p hp => (HX.out.2.1 p hp).far hg3 (by omega)
          have ho3 : OwnPs chdCells Chd.val (fun c => okKy c.key) 6 73 w3 w1.heap.size u11 j ps := OwnPs.kept HX.out.1 hg3 (.inr fun e => by have := (OwnPs.blk HX.out.1 e).1; omega) (fun p hp => (HX.out.2.1 p hp).valB fun k e => by injection e with e; omega)
          have H3 := Lib.hid (And.intro hr3 (And.intro hb3 (And.intro hv3 ho3)))
          clear hr3 hb3 hv3 ho3 hg3
          by_cases hcode : code ≠ 0
          · have hne1 : ((code : Int) != 0) = true := by simp; omega
            have hfin : getInnerS (f :: r) = ([], code) := by
              have h2 : (chdS st).2.1 = code := by rw [chdS_no (by rw [HQ.out]; exact hcode), HQ.out]
              have h1 := addG_no (one := chdS) (key := Chd.key) (ps.map (·.1)) k' (lastK Chd.key (ps.map (·.1))) st (by rw [h2]; exact hcode)
              rw [HX.out.2.2.2.2, h2] at h1
              rw [HRC.out, h1, if_pos hcode]
            have HF := Lib.hid hfin
            clear hfin hcode
            go_wp2_with fail
            go_ret2
            rw [HF.out]
            exact ⟨_, rfl, ⟨[], rfl, OwnG.nil _ _⟩, H3.out.2.1.alloc H3.out.2.1.size _⟩
          · obtain rfl : code = 0 := by omega
            have htk : chdS st = tkC ⟨ki, ka, ks, kc⟩ st1 := by rw [chdS_tk (by rw [HQ.out]), HQ.out]
            have HTK := Lib.hid htk
            clear htk hcode
            obtain ⟨AA, cc, rfl, hin, hcc1, hcc2, hAA⟩ := OwnL.listIn chd_len (OwnPs.list H3.out.2.2.2)
            have hrdA := rd_alloc H3.out.1 (.cells #[.int .i64 ki, .int .u8 (ka.toNat : Int), .string ks, .int .i64 kc] 30)
            have hKA := Blk.new w3 30 #[.int .i64 ki, .int .u8 (ka.toNat : Int), .string ks, .int .i64 kc]
            have hbA := (Below.refl w3.heap.size w3).alloc (Nat.le_refl _) (.cells #[.int .i64 ki, .int .u8 (ka.toNat : Int), .string ks, .int .i64 kc] 30)
            have HA := Lib.hid (And.intro hrdA (And.intro hKA hbA))
            clear hrdA hKA hbA hin hAA
            obtain ⟨q2, hq2⟩ : ∃ q2, tkC ⟨ki, ka, ks, kc⟩ st1 = q2 := ⟨_, rfl⟩
            have htk2 := tkC_ok (⟨ki, ka, ks, kc⟩ : Ky) st1
            rw [hq2] at htk2
            have HQ2 := Lib.hid hq2
            have HTK2 := Lib.hid htk2
            clear hq2 htk2
            obtain ⟨⟨⟨ai, aa, as', ac⟩, xb, xp⟩, code2, st2⟩ := q2
            go_wp2_with fail
            refine (takeC_any HA.out.1 (fun k hk => by have := (H1.out.2.2 k hk).2; simp; omega) (⟨ki, ka, ks, kc⟩ : Ky)).mono ?_
            rintro e w4 ⟨rfl, hr4, hg4⟩
            rw [HQ2.out] at hr4 ⊢
            dsimp only [chdCells] at hr4 ⊢
            have hs4 : w3.heap.size + 1 ≤ w4.heap.size := by have := hg4.size; simpa using this
            have hg34 : w3.grownBy w4 (some g) := grown_from_alloc hg4
            have hK4 := HA.out.2.1.grown hg4 (fun e => by injection e with e; omega)
            have hb4 := H3.out.2.1.grown hg34 H3.out.2.1.size (fun k e => by injection e with e; omega)
            have hv4 : ∀ p ∈ ps, SpB w4 w1.heap.size p.2 p.1.val := fun p hp => (H3.out.2.2.1 p hp).far hg34 (by omega)
            have ho4' : OwnPs chdCells Chd.val (fun c => okKy c.key) 6 73 w4 w1.heap.size (.slice AA j cc) j ps := OwnPs.kept H3.out.2.2.2 hg34 (.inr fun e => by have := (OwnPs.blk H3.out.2.2.2 e).1; omega) (fun p hp => (H3.out.2.2.1 p hp).valB fun k e => by injection e with e; omega)
            have H4 := Lib.hid (And.intro hr4 (And.intro hb4 (And.intro hv4 (And.intro ho4' hK4))))
            clear hr4 hb4 hv4 ho4' hK4 hg4 hg34
            by_cases hcode2 : code2 ≠ 0
            · have hne2 : ((code2 : Int) != 0) = true := by simp; omega
              have hfin : getInnerS (f :: r) = ([], code2) := by
                have h2 : (chdS st).2.1 = code2 := by rw [HTK.out, HQ2.out]
                have h1 := addG_no (one := chdS) (key := Chd.key) (ps.map (·.1)) k' (lastK Chd.key (ps.map (·.1))) st (by rw [h2]; exact hcode2)
                rw [HX.out.2.2.2.2, h2] at h1
                rw [HRC.out, h1, if_pos hcode2]
              have HF := Lib.hid hfin
              clear hfin hcode2
              go_wp2_with fail
              go_ret2
              rw [HF.out]
              exact ⟨_, rfl, ⟨[], rfl, OwnG.nil _ _⟩, H4.out.2.1.alloc H4.out.2.1.size _⟩
            · obtain rfl : code2 = 0 := by omega
              have hk1 := HTK2.out rfl
              injection hk1 with e1 e2 e3 e4
              subst e1 e2 e3 e4
              have hst : chdS st = (⟨⟨ai, aa, as', ac⟩, xb, xp⟩, 0, st2) := by rw [HTK.out, HQ2.out]
              have HST := Lib.hid (And.intro hst True.intro)
              clear hst hcode2
              have hb45 := (Below.refl w4.heap.size w4).alloc (Nat.le_refl _) (.cells #[.int .i64 ai, .int .u8 (aa.toNat : Int), .string as', .int .i64 ac, .int .i64 xb, .int .i64 xp] 73)
              have hF5 := Blk.new w4 73 #[.int .i64 ai, .int .u8 (aa.toNat : Int), .string as', .int .i64 ac, .int .i64 xb, .int .i64 xp]
              have H5 := Lib.hid (And.intro (H4.out.1.below hb45) (And.intro (below_then H4.out.2.1 H4.out.2.1.size hb45) (And.intro (fun p hp => (H4.out.2.2.1 p hp).below hb45 : ∀ p ∈ ps, SpB _ w1.heap.size p.2 p.1.val) (And.intro (OwnPs.below H4.out.2.2.2.1 hb45) (And.intro (H4.out.2.2.2.2.below hb45 (by omega)) (And.intro True.intro hF5))))))
              clear hb45 hF5
              go_wp2_with fail
              have hs5 := alloc_sz w4 (.cells #[.int .i64 ai, .int .u8 (aa.toNat : Int), .string as', .int .i64 ac, .int .i64 xb, .int .i64 xp] 73)
              generalize w4.alloc (.cells #[.int .i64 ai, .int .u8 (aa.toNat : Int), .string as', .int .i64 ac, .int .i64 xb, .int .i64 xp] 73) = w5 at *
              obtain ⟨kb, hkb⟩ : ∃ kb, w3.heap.size = kb := ⟨_, rfl⟩
              obtain ⟨fb, hfb⟩ : ∃ fb, w4.heap.size = fb := ⟨_, rfl⟩
              have hkb5 : kb < w5.heap.size := by omega
              have hfb5 : fb < w5.heap.size := by omega
              rw [hkb] at H5 ⊢
              rw [hfb] at H5 ⊢
              have hs5' : w4.heap.size + 1 ≤ w5.heap.size := by omega
              have hkb' : w3.heap.size ≤ kb ∧ kb ≤ w3.heap.size := by omega
              have hfb' : w4.heap.size ≤ fb ∧ fb ≤ w4.heap.size := by omega
              clear hs5 hkb hfb
              rcases Nat.eq_zero_or_pos j with hj0 | hj0
              · have q3 : decide (0 < (j : Int)) = false := decide_eq_false (by omega)
                have q4 : decide (0 < j) = false := decide_eq_false (by omega)
                have hos : stepOk (lastK Chd.key (ps.map (·.1))) (⟨ai, aa, as', ac⟩ : Ky) := by
                  have h1 := H5.out.2.2.2.1.1
                  have : ps = [] := List.eq_nil_of_length_eq_zero (by omega)
                  rw [this]
                  intro q h
                  cases h
                have HJ := Lib.hid hj0
                clear hj0
                have hstep := addG_step (one := chdS) (key := Chd.key) (ps.map (·.1)) k' st (by rw [HST.out.1]) (by rw [HST.out.1]; exact hos)
                rw [HX.out.2.2.2.2, HST.out.1] at hstep
                have HSP := Lib.hid hstep
                clear hstep hos
                have m0 : ∀ p : InC (fun w' => Below w5.heap.size w5 w'), p.w.cell? ⟨kb, 0, none⟩ = some (.int .i64 ai) := fun p => by rw [(H5.out.2.2.2.2.1.below p.h (by omega)).cell]; rfl
                have m1 : ∀ p : InC (fun w' => Below w5.heap.size w5 w'), p.w.cell? ⟨kb, 1, none⟩ = some (.int .u8 (aa.toNat : Int)) := fun p => by rw [(H5.out.2.2.2.2.1.below p.h (by omega)).cell]; rfl
                have m2 : ∀ p : InC (fun w' => Below w5.heap.size w5 w'), p.w.cell? ⟨kb, 2, none⟩ = some (.string as') := fun p => by rw [(H5.out.2.2.2.2.1.below p.h (by omega)).cell]; rfl
                have m3 : ∀ p : InC (fun w' => Below w5.heap.size w5 w'), p.w.cell? ⟨kb, 3, none⟩ = some (.int .i64 ac) := fun p => by rw [(H5.out.2.2.2.2.1.below p.h (by omega)).cell]; rfl
                have hinh : Nonempty (InC (fun w' => Below w5.heap.size w5 w')) := ⟨⟨w5, Below.refl _ _⟩⟩
                refine wp_region_class (fun w' => Below w5.heap.size w5 w') (by kernel_rfl) (by kernel_rfl) (Below.refl _ _).drew ?_
                repeat (go_big_quiet_step (fail))
                refine wpQuiet_nil ?_
                rintro _ ⟨p4', rfl⟩
                clear hinh m0 m1 m2 m3
                have hb6 := p4'.h
                have hs6 := hb6.size
                generalize p4'.w = w6 at hb6 hs6 ⊢
                have hF6 := H5.out.2.2.2.2.2.2.below hb6 (by omega)
                have hF6c := hF6.cell
                have y0 : w6.cell? ⟨fb, 0, none⟩ = some (.int .i64 ai) := by rw [hF6c]; rfl
                have y1 : w6.cell? ⟨fb, 1, none⟩ = some (.int .u8 (aa.toNat : Int)) := by rw [hF6c]; rfl
                have y2 : w6.cell? ⟨fb, 2, none⟩ = some (.string as') := by rw [hF6c]; rfl
                have y3 : w6.cell? ⟨fb, 3, none⟩ = some (.int .i64 ac) := by rw [hF6c]; rfl
                have y4 : w6.cell? ⟨fb, 4, none⟩ = some (.int .i64 xb) := by rw [hF6c]; rfl
                have y5 : w6.cell? ⟨fb, 5, none⟩ = some (.int .i64 xp) := by rw [hF6c]; rfl
                have ho6 := H5.out.2.2.2.1.below hb6
                have hsp6 : SpB w6 (w3.heap.size + 1) (.slice none 0 0) [] := SpB.nil _ _
                have hrow : ∀ k, (Value.slice AA j cc).ownBlock = some k → w1.heap.size ≤ k ∧ k < w3.heap.size := fun k hk => OwnPs.blk H3.out.2.2.2 hk
                have hu1 : ValB w6 (Value.slice AA j cc).ownBlock (.slice none 0 0) [] := hsp6.valB fun k hk => by have := (hrow k hk).2; omega
                have hok : okKy (⟨ai, aa, as', ac⟩ : Ky) := Nat.le_trans HN.out (by decide)
                have H6 := Lib.hid (And.intro ho6 (And.intro hsp6 (And.intro hrow (And.intro hu1 (And.intro hok (And.intro (H5.out.1.below hb6) (And.intro (below_then H5.out.2.1 H5.out.2.1.size hb6) (fun p hp => (H5.out.2.2.1 p hp).below hb6 : ∀ p ∈ ps, SpB w6 w1.heap.size p.2 p.1.val))))))))
                clear hF6 hF6c ho6 hsp6 hrow hu1 hok hb6
                go_wp2_with (at_builtin; refine wpList_appP1H (cell := chdCells) (val := Chd.val) (ok := fun c => okKy c.key) (sz := 6) w6 rfl _ _ 44 rfl w1.heap.size 73 ii iz 56 Try.underlying44 hii hiz hi1 hi2 hi3 (by decide) chd_len chd_one (.slice AA j cc) j ps rfl H6.out.1 ⟨⟨ai, aa, as', ac⟩, xb, xp⟩ (.slice none 0 0) w6.heap.size rfl rfl H6.out.2.2.2.2.1 H6.out.2.2.2.1 _ rfl ?_ ?_ ?_ ?_)
                · unfold maxLen; omega
                · omega
                · omega
                intro v7 w7 ho7 hg7 hv7
                have hrow := H6.out.2.2.1
                have hb7 : Below w.heap.size w w7 := H6.out.2.2.2.2.2.2.1.grown hg7 H6.out.2.2.2.2.2.2.1.size (fun k e => by have := (hrow k e).1; have := H1.out.2.1.size; omega)
                have hvs7 : ∀ p ∈ ps ++ [((⟨⟨ai, aa, as', ac⟩, xb, xp⟩ : Chd), Value.slice none 0 0)], SpB w7 w1.heap.size p.2 p.1.val := by
                  intro p hp
                  rcases List.mem_append.1 hp with hp | hp
                  · exact (H6.out.2.2.2.2.2.2.2 p hp).kept (H6.out.1.2.2 p hp).2 hg7
                  · rw [List.mem_singleton] at hp
                    subst hp
                    exact (H6.out.2.1.kept H6.out.2.2.2.1 hg7).lower (by omega)
                have hr7 : Rd w7 g h st2 := H6.out.2.2.2.2.2.1.keep fun k hk hkk => hg7.block k hk fun e => by
                  have h1 := (hrow k e.symm).1
                  rcases hkk with rfl | hkk
                  · omega
                  · have := (H1.out.2.2 k hkk.symm).2
                    omega
                have hs7 := hg7.size
                have H7 := Lib.hid (And.intro ho7 (And.intro hvs7 (And.intro hr7 hb7)))
                clear ho7 hvs7 hr7 hb7 hg7 hv7 hrow
                go_wp2_with fail
                go_roundg k'
                case measure => omega
                case rel => exact ⟨j + 1, _, st2, by omega, by go_num, H7.out.1, H7.out.2.1, H7.out.2.2.1, H7.out.2.2.2, by omega, by rw [List.map_append]; exact HSP.out.symm⟩
              · have q3 : decide (0 < (j : Int)) = true := decide_eq_true (by omega)
                have q4 : decide (0 < j) = true := decide_eq_true (by omega)
                obtain ⟨q, hq⟩ : ∃ q, j = q + 1 := ⟨j - 1, by omega⟩
                have hwm : IntKind.i64.wrap ((j : Int) - 1) = (q : Int) := by rw [hq]; exact (IntWalk.i64_in _ (by omega)).trans (by omega)
                have hmn : (q : Int) < (j : Int) := by omega
                have hlen : (ps.map (·.1)).length = j := by rw [List.length_map]; exact H5.out.2.2.2.1.1
                obtain ⟨x', hx'⟩ : ∃ x, (ps.map (·.1))[q]? = some x := ⟨_, List.getElem?_eq_getElem (by omega)⟩
                obtain ⟨AA', cc', hAA', hin, _, _, _⟩ := OwnL.listIn chd_len (OwnPs.list H5.out.2.2.2.1)
                injection hAA' with hA1 _ hA3
                subst hA1 hA3
                obtain ⟨okx, ad, hA', hblk', x0, x1, x2, x3, x4, x5⟩ := ChdsIn.at_ hin hx'
                subst hA'
                have hlast : lastK Chd.key (ps.map (·.1)) = some x'.key := by
                  unfold lastK
                  rw [List.getLast?_eq_getElem?, hlen, hq, Nat.add_sub_cancel, hx']
                  rfl
                have HXX := Lib.hid (And.intro hlast (And.intro hblk' (And.intro x0 (And.intro x1 (And.intro x2 (And.intro x3 (And.intro x4 (And.intro x5 hq))))))))
                clear x0 x1 x2 x3 x4 x5 hx' hq hlast hin hlen okx
                obtain ⟨⟨xi, xa, xs, xc⟩, zb, zp⟩ := x'
                dsimp only at HXX
                have HKB := Lib.hid (fun w => beforeK_any w ⟨xi, xa, xs, xc⟩ ⟨ai, aa, as', ac⟩)
                have HKF := Lib.hid (fun w => keyC_any w ⟨xi, xa, xs, xc⟩ zb zp)
                unfold Ky.val at HKB HKF
                dsimp only at HKB HKF
                by_cases hlt' : keyLt ⟨xi, xa, xs, xc⟩ ⟨ai, aa, as', ac⟩
                · have hos : stepOk (lastK Chd.key (ps.map (·.1))) (⟨ai, aa, as', ac⟩ : Ky) := fun q h => by
                    rw [HXX.out.1] at h
                    cases h
                    exact hlt'
                  rw [decide_eq_true hlt'] at HKB
                  clear hlt'
                  have hstep := addG_step (one := chdS) (key := Chd.key) (ps.map (·.1)) k' st (by rw [HST.out.1]) (by rw [HST.out.1]; exact hos)
                  rw [HX.out.2.2.2.2, HST.out.1] at hstep
                  have HSP := Lib.hid hstep
                  clear hstep hos
                  have m0 : ∀ p : InC (fun w' => Below w5.heap.size w5 w'), p.w.cell? ⟨kb, 0, none⟩ = some (.int .i64 ai) := fun p => by rw [(H5.out.2.2.2.2.1.below p.h (by omega)).cell]; rfl
                  have m1 : ∀ p : InC (fun w' => Below w5.heap.size w5 w'), p.w.cell? ⟨kb, 1, none⟩ = some (.int .u8 (aa.toNat : Int)) := fun p => by rw [(H5.out.2.2.2.2.1.below p.h (by omega)).cell]; rfl
                  have m2 : ∀ p : InC (fun w' => Below w5.heap.size w5 w'), p.w.cell? ⟨kb, 2, none⟩ = some (.string as') := fun p => by rw [(H5.out.2.2.2.2.1.below p.h (by omega)).cell]; rfl
                  have m3 : ∀ p : InC (fun w' => Below w5.heap.size w5 w'), p.w.cell? ⟨kb, 3, none⟩ = some (.int .i64 ac) := fun p => by rw [(H5.out.2.2.2.2.1.below p.h (by omega)).cell]; rfl
                  have n0 : ∀ p : InC (fun w' => Below w5.heap.size w5 w'), p.w.cell? (ad.add (q * 6)) = some (.int .i64 xi) := fun p => (World.cell?_of_block (p.h.block _ HXX.out.2.1)).trans HXX.out.2.2.1
                  have n1 : ∀ p : InC (fun w' => Below w5.heap.size w5 w'), p.w.cell? ⟨(ad.add (q * 6)).block, (ad.add (q * 6)).off + 1, none⟩ = some (.int .u8 (xa.toNat : Int)) := fun p => by
                    have e1 := p.h.block _ HXX.out.2.1
                    have e2 : p.w.cell? ⟨(ad.add (q * 6)).block, (ad.add (q * 6)).off + 1, none⟩ = w5.cell? ⟨(ad.add (q * 6)).block, (ad.add (q * 6)).off + 1, none⟩ := World.cell?_of_block e1
                    exact e2.trans HXX.out.2.2.2.1
                  have n2 : ∀ p : InC (fun w' => Below w5.heap.size w5 w'), p.w.cell? ⟨(ad.add (q * 6)).block, (ad.add (q * 6)).off + 2, none⟩ = some (.string xs) := fun p => by
                    have e1 := p.h.block _ HXX.out.2.1
                    have e2 : p.w.cell? ⟨(ad.add (q * 6)).block, (ad.add (q * 6)).off + 2, none⟩ = w5.cell? ⟨(ad.add (q * 6)).block, (ad.add (q * 6)).off + 2, none⟩ := World.cell?_of_block e1
                    exact e2.trans HXX.out.2.2.2.2.1
                  have n3 : ∀ p : InC (fun w' => Below w5.heap.size w5 w'), p.w.cell? ⟨(ad.add (q * 6)).block, (ad.add (q * 6)).off + 3, none⟩ = some (.int .i64 xc) := fun p => by
                    have e1 := p.h.block _ HXX.out.2.1
                    have e2 : p.w.cell? ⟨(ad.add (q * 6)).block, (ad.add (q * 6)).off + 3, none⟩ = w5.cell? ⟨(ad.add (q * 6)).block, (ad.add (q * 6)).off + 3, none⟩ := World.cell?_of_block e1
                    exact e2.trans HXX.out.2.2.2.2.2.1
                  have n4 : ∀ p : InC (fun w' => Below w5.heap.size w5 w'), p.w.cell? ⟨(ad.add (q * 6)).block, (ad.add (q * 6)).off + 4, none⟩ = some (.int .i64 zb) := fun p => by
                    have e1 := p.h.block _ HXX.out.2.1
                    have e2 : p.w.cell? ⟨(ad.add (q * 6)).block, (ad.add (q * 6)).off + 4, none⟩ = w5.cell? ⟨(ad.add (q * 6)).block, (ad.add (q * 6)).off + 4, none⟩ := World.cell?_of_block e1
                    exact e2.trans HXX.out.2.2.2.2.2.2.1
                  have n5 : ∀ p : InC (fun w' => Below w5.heap.size w5 w'), p.w.cell? ⟨(ad.add (q * 6)).block, (ad.add (q * 6)).off + 5, none⟩ = some (.int .i64 zp) := fun p => by
                    have e1 := p.h.block _ HXX.out.2.1
                    have e2 : p.w.cell? ⟨(ad.add (q * 6)).block, (ad.add (q * 6)).off + 5, none⟩ = w5.cell? ⟨(ad.add (q * 6)).block, (ad.add (q * 6)).off + 5, none⟩ := World.cell?_of_block e1
                    exact e2.trans HXX.out.2.2.2.2.2.2.2.1
                  have hinh : Nonempty (InC (fun w' => Below w5.heap.size w5 w')) := ⟨⟨w5, Below.refl _ _⟩⟩
                  refine wp_region_class (fun w' => Below w5.heap.size w5 w') (by kernel_rfl) (by kernel_rfl) (Below.refl _ _).drew ?_
                  repeat (go_big_quiet_step (first | (go_at_call 46; rename_i p; exact class_call (HKF.out _) (fun _ hb => below_then p.h p.h.size hb)) | (go_at_call 37; rename_i p; exact class_call (HKB.out _) (fun _ hb => below_then p.h p.h.size hb))))
                  refine wpQuiet_nil ?_
                  rintro _ ⟨p4', rfl⟩
                  clear hinh m0 m1 m2 m3 n0 n1 n2 n3 n4 n5
                  have hb6 := p4'.h
                  have hs6 := hb6.size
                  generalize p4'.w = w6 at hb6 hs6 ⊢
                  have hF6 := H5.out.2.2.2.2.2.2.below hb6 (by omega)
                  have hF6c := hF6.cell
                  have y0 : w6.cell? ⟨fb, 0, none⟩ = some (.int .i64 ai) := by rw [hF6c]; rfl
                  have y1 : w6.cell? ⟨fb, 1, none⟩ = some (.int .u8 (aa.toNat : Int)) := by rw [hF6c]; rfl
                  have y2 : w6.cell? ⟨fb, 2, none⟩ = some (.string as') := by rw [hF6c]; rfl
                  have y3 : w6.cell? ⟨fb, 3, none⟩ = some (.int .i64 ac) := by rw [hF6c]; rfl
                  have y4 : w6.cell? ⟨fb, 4, none⟩ = some (.int .i64 xb) := by rw [hF6c]; rfl
                  have y5 : w6.cell? ⟨fb, 5, none⟩ = some (.int .i64 xp) := by rw [hF6c]; rfl
                  have ho6 := H5.out.2.2.2.1.below hb6
                  have hsp6 : SpB w6 (w3.heap.size + 1) (.slice none 0 0) [] := SpB.nil _ _
                  have hrow : ∀ k, (Value.slice (some ad) j cc).ownBlock = some k → w1.heap.size ≤ k ∧ k < w3.heap.size := fun k hk => OwnPs.blk H3.out.2.2.2 hk
                  have hu1 : ValB w6 (Value.slice (some ad) j cc).ownBlock (.slice none 0 0) [] := hsp6.valB fun k hk => by have := (hrow k hk).2; omega
                  have hok : okKy (⟨ai, aa, as', ac⟩ : Ky) := Nat.le_trans HN.out (by decide)
                  have H6 := Lib.hid (And.intro ho6 (And.intro hsp6 (And.intro hrow (And.intro hu1 (And.intro hok (And.intro (H5.out.1.below hb6) (And.intro (below_then H5.out.2.1 H5.out.2.1.size hb6) (fun p hp => (H5.out.2.2.1 p hp).below hb6 : ∀ p ∈ ps, SpB w6 w1.heap.size p.2 p.1.val))))))))
                  clear hF6 hF6c ho6 hsp6 hrow hu1 hok hb6
                  go_wp2_with (at_builtin; refine wpList_appP1H (cell := chdCells) (val := Chd.val) (ok := fun c => okKy c.key) (sz := 6) w6 rfl _ _ 44 rfl w1.heap.size 73 ii iz 56 Try.underlying44 hii hiz hi1 hi2 hi3 (by decide) chd_len chd_one (.slice (some ad) j cc) j ps rfl H6.out.1 ⟨⟨ai, aa, as', ac⟩, xb, xp⟩ (.slice none 0 0) w6.heap.size rfl rfl H6.out.2.2.2.2.1 H6.out.2.2.2.1 _ rfl ?_ ?_ ?_ ?_)
                  · unfold maxLen; omega
                  · omega
                  · omega
                  intro v7 w7 ho7 hg7 hv7
                  have hrow := H6.out.2.2.1
                  have hb7 : Below w.heap.size w w7 := H6.out.2.2.2.2.2.2.1.grown hg7 H6.out.2.2.2.2.2.2.1.size (fun k e => by have := (hrow k e).1; have := H1.out.2.1.size; omega)
                  have hvs7 : ∀ p ∈ ps ++ [((⟨⟨ai, aa, as', ac⟩, xb, xp⟩ : Chd), Value.slice none 0 0)], SpB w7 w1.heap.size p.2 p.1.val := by
                    intro p hp
                    rcases List.mem_append.1 hp with hp | hp
                    · exact (H6.out.2.2.2.2.2.2.2 p hp).kept (H6.out.1.2.2 p hp).2 hg7
                    · rw [List.mem_singleton] at hp
                      subst hp
                      exact (H6.out.2.1.kept H6.out.2.2.2.1 hg7).lower (by omega)
                  have hr7 : Rd w7 g h st2 := H6.out.2.2.2.2.2.1.keep fun k hk hkk => hg7.block k hk fun e => by
                    have h1 := (hrow k e.symm).1
                    rcases hkk with rfl | hkk
                    · omega
                    · have := (H1.out.2.2 k hkk.symm).2
                      omega
                  have hs7 := hg7.size
                  have H7 := Lib.hid (And.intro ho7 (And.intro hvs7 (And.intro hr7 hb7)))
                  clear ho7 hvs7 hr7 hb7 hg7 hv7 hrow
                  go_wp2_with fail
                  go_roundg k'
                  case measure => omega
                  case rel => exact ⟨j + 1, _, st2, by omega, by go_num, H7.out.1, H7.out.2.1, H7.out.2.2.1, H7.out.2.2.2, by omega, by rw [List.map_append]; exact HSP.out.symm⟩
                · have hos : ¬ stepOk (lastK Chd.key (ps.map (·.1))) (⟨ai, aa, as', ac⟩ : Ky) := fun h => hlt' (h _ HXX.out.1)
                  rw [decide_eq_false hlt'] at HKB
                  have hfin : getInnerS (f :: r) = ([], 5) := by
                    have h1 := addG_bad (one := chdS) (key := Chd.key) (ps.map (·.1)) k' (lastK Chd.key (ps.map (·.1))) st (by rw [HST.out.1]) (by rw [HST.out.1]; exact hos)
                    rw [HX.out.2.2.2.2] at h1
                    rw [HRC.out, h1, if_pos (by decide)]
                  have HF := Lib.hid hfin
                  clear hfin hlt' hos
                  have m0 : ∀ p : InC (fun w' => Below w5.heap.size w5 w'), p.w.cell? ⟨kb, 0, none⟩ = some (.int .i64 ai) := fun p => by rw [(H5.out.2.2.2.2.1.below p.h (by omega)).cell]; rfl
                  have m1 : ∀ p : InC (fun w' => Below w5.heap.size w5 w'), p.w.cell? ⟨kb, 1, none⟩ = some (.int .u8 (aa.toNat : Int)) := fun p => by rw [(H5.out.2.2.2.2.1.below p.h (by omega)).cell]; rfl
                  have m2 : ∀ p : InC (fun w' => Below w5.heap.size w5 w'), p.w.cell? ⟨kb, 2, none⟩ = some (.string as') := fun p => by rw [(H5.out.2.2.2.2.1.below p.h (by omega)).cell]; rfl
                  have m3 : ∀ p : InC (fun w' => Below w5.heap.size w5 w'), p.w.cell? ⟨kb, 3, none⟩ = some (.int .i64 ac) := fun p => by rw [(H5.out.2.2.2.2.1.below p.h (by omega)).cell]; rfl
                  have n0 : ∀ p : InC (fun w' => Below w5.heap.size w5 w'), p.w.cell? (ad.add (q * 6)) = some (.int .i64 xi) := fun p => (World.cell?_of_block (p.h.block _ HXX.out.2.1)).trans HXX.out.2.2.1
                  have n1 : ∀ p : InC (fun w' => Below w5.heap.size w5 w'), p.w.cell? ⟨(ad.add (q * 6)).block, (ad.add (q * 6)).off + 1, none⟩ = some (.int .u8 (xa.toNat : Int)) := fun p => by
                    have e1 := p.h.block _ HXX.out.2.1
                    have e2 : p.w.cell? ⟨(ad.add (q * 6)).block, (ad.add (q * 6)).off + 1, none⟩ = w5.cell? ⟨(ad.add (q * 6)).block, (ad.add (q * 6)).off + 1, none⟩ := World.cell?_of_block e1
                    exact e2.trans HXX.out.2.2.2.1
                  have n2 : ∀ p : InC (fun w' => Below w5.heap.size w5 w'), p.w.cell? ⟨(ad.add (q * 6)).block, (ad.add (q * 6)).off + 2, none⟩ = some (.string xs) := fun p => by
                    have e1 := p.h.block _ HXX.out.2.1
                    have e2 : p.w.cell? ⟨(ad.add (q * 6)).block, (ad.add (q * 6)).off + 2, none⟩ = w5.cell? ⟨(ad.add (q * 6)).block, (ad.add (q * 6)).off + 2, none⟩ := World.cell?_of_block e1
                    exact e2.trans HXX.out.2.2.2.2.1
                  have n3 : ∀ p : InC (fun w' => Below w5.heap.size w5 w'), p.w.cell? ⟨(ad.add (q * 6)).block, (ad.add (q * 6)).off + 3, none⟩ = some (.int .i64 xc) := fun p => by
                    have e1 := p.h.block _ HXX.out.2.1
                    have e2 : p.w.cell? ⟨(ad.add (q * 6)).block, (ad.add (q * 6)).off + 3, none⟩ = w5.cell? ⟨(ad.add (q * 6)).block, (ad.add (q * 6)).off + 3, none⟩ := World.cell?_of_block e1
                    exact e2.trans HXX.out.2.2.2.2.2.1
                  have n4 : ∀ p : InC (fun w' => Below w5.heap.size w5 w'), p.w.cell? ⟨(ad.add (q * 6)).block, (ad.add (q * 6)).off + 4, none⟩ = some (.int .i64 zb) := fun p => by
                    have e1 := p.h.block _ HXX.out.2.1
                    have e2 : p.w.cell? ⟨(ad.add (q * 6)).block, (ad.add (q * 6)).off + 4, none⟩ = w5.cell? ⟨(ad.add (q * 6)).block, (ad.add (q * 6)).off + 4, none⟩ := World.cell?_of_block e1
                    exact e2.trans HXX.out.2.2.2.2.2.2.1
                  have n5 : ∀ p : InC (fun w' => Below w5.heap.size w5 w'), p.w.cell? ⟨(ad.add (q * 6)).block, (ad.add (q * 6)).off + 5, none⟩ = some (.int .i64 zp) := fun p => by
                    have e1 := p.h.block _ HXX.out.2.1
                    have e2 : p.w.cell? ⟨(ad.add (q * 6)).block, (ad.add (q * 6)).off + 5, none⟩ = w5.cell? ⟨(ad.add (q * 6)).block, (ad.add (q * 6)).off + 5, none⟩ := World.cell?_of_block e1
                    exact e2.trans HXX.out.2.2.2.2.2.2.2.1
                  have hinh : Nonempty (InC (fun w' => Below w5.heap.size w5 w')) := ⟨⟨w5, Below.refl _ _⟩⟩
                  refine wp_region_class (fun w' => Below w5.heap.size w5 w') (by kernel_rfl) (by kernel_rfl) (Below.refl _ _).drew ?_
                  repeat (go_big_quiet_step (first | (go_at_call 46; rename_i p; exact class_call (HKF.out _) (fun _ hb => below_then p.h p.h.size hb)) | (go_at_call 37; rename_i p; exact class_call (HKB.out _) (fun _ hb => below_then p.h p.h.size hb))))
                  refine wpQuiet_nil ?_
                  rintro _ ⟨p4', rfl⟩
                  clear hinh m0 m1 m2 m3 n0 n1 n2 n3 n4 n5
                  have hb6 := p4'.h
                  have hs6 := hb6.size
                  generalize p4'.w = w6 at hb6 hs6 ⊢
                  go_wp2_with fail
                  go_ret2
                  rw [HF.out]
                  exact ⟨_, rfl, ⟨[], rfl, OwnG.nil _ _⟩, below_then H5.out.2.1 H5.out.2.1.size hb6⟩
        · obtain rfl : j = F := by omega
          obtain rfl : gk = 0 := by omega
          have hge : ¬ (j : Int) < (j : Int) := by omega
          have hgo : lsGo chdS Chd.key j none (some r) = (ps.map (·.1), 0, st) := by rw [← HX.out.2.2.2.2]; unfold addG lsGo; simp
          by_cases hl : 0 < leftS st
          · have hfin : getInnerS (f :: r) = ([], 5) := by rw [HRC.out, hgo]; simp [hl]
            have hl' : 0 < (leftS st : Int) := by omega
            have HF := Lib.hid hfin
            clear hfin hl hgo
            go_wp2_with (go_at_call 51; refine (left_any HX.out.2.2.1).mono ?_; rintro e w4 ⟨rfl, rfl⟩)
            go_ret2
            rw [HF.out]
            exact ⟨_, rfl, ⟨[], rfl, OwnG.nil _ _⟩, HX.out.2.2.2.1⟩
          · have hfin : getInnerS (f :: r) = (ps.map (·.1), 0) := by rw [HRC.out, hgo]; simp; omega
            have hl' : ¬ 0 < (leftS st : Int) := by omega
            have HF := Lib.hid hfin
            clear hfin hl hgo
            obtain ⟨g', c', rfl, hc1, hc2, hown⟩ := OwnPs.handed chd_len HX.out.1 HX.out.2.1 (by omega)
            have HO := Lib.hid (hown j (Nat.le_refl _) (by omega))
            have hn : (ps.map (·.1)).length = j := by rw [List.length_map]; exact HX.out.1.1
            have HN := Lib.hid hn
            clear hown hn
            go_wp2_with (go_at_call 51; refine (left_any HX.out.2.2.1).mono ?_; rintro e w4 ⟨rfl, rfl⟩)
            go_ret2
            rw [HF.out]
            exact ⟨_, rfl, ⟨ps, rfl, by rw [HN.out]; exact HO.out.lower (by have := H1.out.2.1.size; omega)⟩, HX.out.2.2.2.1⟩
end Go.Proofs.Ytegoeagmadhpgaa

/- Layer 15: GetLeaf, GetInner: contracts. -/
namespace Go.Proofs.Ytegoeagmadhpgaa
open Go.RowKit

set_option maxRecDepth 100000 in
set_option maxHeartbeats 1000000 in
theorem getLeaf_any (w : World) (A : Option Addr) (n c : Nat) (xs : List UInt8) (hn : xs.length = n) (hr : RV w A (bv xs)) (hx : n ≤ 140737488355328) :
    Calls Try.prog 9 #[.slice A n c] w (LsFEnd w (getLeafS xs)) := by
  subst hn
  have hb := (Below.refl w.heap.size w).alloc (Nat.le_refl _) (.cells #[] 52)
  have H := Lib.hid (And.intro (listF_any (w.alloc (.cells #[] 52)) A c xs (hr.alloc _) hx) hb)
  clear hr hb
  generalize getLeafS xs = r at *
  go_enter Try.func9, Try.ntmps9
  go_wp2_with fail
  refine H.out.1.mono ?_
  rintro e w1 ⟨v, rfl, ⟨ps, hps, ho⟩, hb1⟩
  have H1 := Lib.hid (And.intro hps (And.intro (ho.lower (show w.heap.size ≤ (w.alloc (.cells #[] 52)).heap.size by simp)) (below_then H.out.2 H.out.2.size hb1)))
  clear hps ho hb1
  go_wp2_with fail
  go_ret2
  exact ⟨_, rfl, ⟨ps, H1.out.1, H1.out.2.1⟩, H1.out.2.2⟩

set_option maxRecDepth 100000 in
set_option maxHeartbeats 1000000 in
theorem getInner_any (w : World) (A : Option Addr) (n c : Nat) (xs : List UInt8) (hn : xs.length = n) (hr : RV w A (bv xs)) (hx : n ≤ 140737488355328) :
    Calls Try.prog 25 #[.slice A n c] w (LsCEnd w (getInnerS xs)) := by
  subst hn
  have hb := (Below.refl w.heap.size w).alloc (Nat.le_refl _) (.cells #[] 52)
  have H := Lib.hid (And.intro (listC_any (w.alloc (.cells #[] 52)) A c xs (hr.alloc _) hx) hb)
  clear hr hb
  generalize getInnerS xs = r at *
  go_enter Try.func25, Try.ntmps25
  go_wp2_with fail
  refine H.out.1.mono ?_
  rintro e w1 ⟨v, rfl, ⟨ps, hps, ho⟩, hb1⟩
  have H1 := Lib.hid (And.intro hps (And.intro (ho.lower (show w.heap.size ≤ (w.alloc (.cells #[] 52)).heap.size by simp)) (below_then H.out.2 H.out.2.size hb1)))
  clear hps ho hb1
  go_wp2_with fail
  go_ret2
  exact ⟨_, rfl, ⟨ps, H1.out.1, H1.out.2.1⟩, H1.out.2.2⟩
end Go.Proofs.Ytegoeagmadhpgaa
