import Derived.Test.YtckpgbkabbddnaaKeyG2M
import Derived.Test.YtckpgbkabbddnaaRecCM
import Derived.Test.YtckpgbkabbddnaaMPlain
set_option linter.unusedVariables false
set_option linter.unusedSimpArgs false
/- Layer 11: the next change: contract. -/
namespace Go.Proofs.Ytckpgbkabbddnaa
open Go.RowKit

theorem Blk.set6 {w : World} {g : Nat} {t : TypeId} {a b c d e f : Value} (h : Blk w g t #[a, b, c, d, e, f]) (a' b' c' d' e' f' : Value) :
    Blk ((((((w.setCell ⟨g, 0, none⟩ a').setCell ⟨g, 1, none⟩ b').setCell ⟨g, 2, none⟩ c').setCell ⟨g, 3, none⟩ d').setCell ⟨g, 4, none⟩ e').setCell ⟨g, 5, none⟩ f') g t #[a', b', c', d', e', f'] := by
  have := (((((h.set_ 0 a').set_ 1 b').set_ 2 c').set_ 3 d').set_ 4 e').set_ 5 f'
  simpa using this
theorem grown_set6 {w w2 : World} {row : Option Nat} (h : w.grownBy w2 row) {R : Nat} (hR : w.heap.size ≤ R) (a b c d e f : Value) :
    w.grownBy ((((((w2.setCell ⟨R, 0, none⟩ a).setCell ⟨R, 1, none⟩ b).setCell ⟨R, 2, none⟩ c).setCell ⟨R, 3, none⟩ d).setCell ⟨R, 4, none⟩ e).setCell ⟨R, 5, none⟩ f) row :=
  grown_new_set (grown_new_set (grown_set4 h hR a b c d) hR e) hR f
theorem rd_set6 {w : World} {g : Nat} {h : Option Nat} {st : Option (List UInt8)} (r : Rd w g h st) {R : Nat} (hg : g ≠ R) (hh : ∀ k, h = some k → k ≠ R) (a b c d e f : Value) :
    Rd ((((((w.setCell ⟨R, 0, none⟩ a).setCell ⟨R, 1, none⟩ b).setCell ⟨R, 2, none⟩ c).setCell ⟨R, 3, none⟩ d).setCell ⟨R, 4, none⟩ e).setCell ⟨R, 5, none⟩ f) g h st :=
  rd_far1 (rd_far1 (rd_set4 r hg hh a b c d) hg hh e) hg hh f
theorem ownB6 {e0 : TypeId} {w : World} {base : Nat} {v : Value} {xs : List UInt8} (h : OwnB e0 w base v xs) {R : Nat} (hR : R < base) (a b c d e f : Value) :
    OwnB e0 ((((((w.setCell ⟨R, 0, none⟩ a).setCell ⟨R, 1, none⟩ b).setCell ⟨R, 2, none⟩ c).setCell ⟨R, 3, none⟩ d).setCell ⟨R, 4, none⟩ e).setCell ⟨R, 5, none⟩ f) base v xs :=
  (((((h.setOther hR a).setOther hR b).setOther hR c).setOther hR d).setOther hR e).setOther hR f
theorem getKeyS_code (st : Option (List UInt8)) : (getKeyS st).2.1 ≤ 5 := by
  have hf : ∀ k st', (finK k st').2.1 ≤ 5 := fun k st' => by unfold finK; split <;> simp
  match st with
  | none => simp [getKeyS]
  | some [] => simp [getKeyS]
  | some [_] => simp [getKeyS]
  | some [_, _] => simp [getKeyS]
  | some (a :: b :: c :: r) =>
    unfold getKeyS
    dsimp only
    split
    · split
      · simp
      · exact hf _ _
    · split
      · cases r with
        | nil => simp
        | cons d r => exact hf _ _
      · exact hf _ _
theorem ownB_far {e : TypeId} {w : World} {base : Nat} {v : Value} {xs : List UInt8} (h : OwnB e w base v xs) {R i : Nat} (hR : R < base) (u : Value) : OwnB e (w.setCell ⟨R, i, none⟩ u) base v xs := h.setOther hR u
def OneEnd (w : World) (g : Nat) (h : Option Nat) (r : Chg × Nat × Option (List UInt8)) (e : Ending) (w' : World) : Prop :=
  ∃ v, e = .returned (.tuple #[.agg (chgCells r.1 v).toArray, .int .i64 (r.2.1 : Int)]) ∧ OwnB 5 w' w.heap.size v r.1.val ∧ Rd w' g h r.2.2 ∧ w.grownBy w' (some g)




set_option maxRecDepth 100000 in
set_option maxHeartbeats 2000000 in
theorem one_short {w : World} {g : Nat} {h : Option Nat} {st : Option (List UInt8)} (r0 : Rd w g h st) (hh : ∀ k, h = some k → k < w.heap.size) (hsh : ∀ f r, st ≠ some (f :: r)) :
    Calls Try.prog 31 #[.agg #[.pointer (some ⟨g, 0, none⟩)]] w (OneEnd w g h (oneS st)) := by
  have ht : takeS st 1 = (0, 4, none) := by
    cases st with
    | none => rfl
    | some l =>
      cases l with
      | nil => rfl
      | cons f r => exact absurd rfl (hsh f r)
  have hs : oneS st = (Chg.zero, 4, none) := by
    cases st with
    | none => rfl
    | some l =>
      cases l with
      | nil => rfl
      | cons f r => exact absurd rfl (hsh f r)
  rw [hs]
  clear hs hsh
  have hgw := r0.lt
  have hbel : Below w.heap.size w ((w.alloc (.cells #[.pointer (some ⟨g, 0, none⟩)] 67)).alloc (.cells #[.int .i64 0, .int .u8 0, .string ⟨#[]⟩, .int .i64 0, .slice none 0 0, .bool false] 53)) := ((Below.refl _ _).alloc (Nat.le_refl _) _).alloc (by simp) _
  have hA := (Blk.new w 67 #[.pointer (some ⟨g, 0, none⟩)]).alloc (.cells #[.int .i64 0, .int .u8 0, .string ⟨#[]⟩, .int .i64 0, .slice none 0 0, .bool false] 53)
  have hZ := Blk.new (w.alloc (.cells #[.pointer (some ⟨g, 0, none⟩)] 67)) 53 #[.int .i64 0, .int .u8 0, .string ⟨#[]⟩, .int .i64 0, .slice none 0 0, .bool false]
  rw [alloc_sz] at hZ
  have H0 := Lib.hid (And.intro (r0.below hbel) (And.intro hA (And.intro hZ (And.intro hh (grown_of_below hbel (some g))))))
  have HT := Lib.hid ht
  clear r0 hbel hA hZ hh ht
  go_enter Try.func31, Try.ntmps31
  go_wp2_with fail
  refine (take_any (s := 1) H0.out.1 (.inl rfl)).mono ?_
  rintro e w1 ⟨rfl, hr1, hg1⟩
  rw [HT.out] at hr1 ⊢
  dsimp only at hr1 ⊢
  have hA1 := H0.out.2.1.grown hg1 (fun e => by injection e with e; omega)
  have hZ1 := H0.out.2.2.1.grown hg1 (fun e => by injection e with e; omega)
  have hg2 := grown_trans H0.out.2.2.2.2 hg1
  have hs1 := hZ1.lt
  have a0 := hA1.cell 0
  simp at a0
  have z0 := hZ1.cell 0
  have f0 := hZ1.frozen 0
  have z1 := hZ1.cell 1
  have f1 := hZ1.frozen 1
  have z2 := hZ1.cell 2
  have f2 := hZ1.frozen 2
  have z3 := hZ1.cell 3
  have f3 := hZ1.frozen 3
  have z4 := hZ1.cell 4
  have f4 := hZ1.frozen 4
  have z5 := hZ1.cell 5
  have f5 := hZ1.frozen 5
  simp at z0 z1 z2 z3 z4 z5
  have H1 := Lib.hid (And.intro hr1 (And.intro hA1 (And.intro hZ1 hg2)))
  clear hr1 hA1 hZ1 hg1 hg2
  go_wp2_with fail
  refine post_cell2 Try.results31 Try.underlying53 rfl _ rfl (H1.out.2.2.1.set6 _ _ _ _ _ _) (by kernel_rfl) ?_
  exact ⟨.slice none 0 0, rfl, OwnB.nil _ _ _, rd_set6 H1.out.1 (by omega) (fun k hk => by have := H0.out.2.2.2.1 k hk; omega) _ _ _ _ _ _, grown_set6 H1.out.2.2.2 (by omega) _ _ _ _ _ _⟩


set_option maxRecDepth 100000 in
set_option maxHeartbeats 2000000 in
theorem one_flag {w : World} {g : Nat} {h : Option Nat} {f : UInt8} {r : List UInt8} (r0 : Rd w g h (some (f :: r))) (hh : ∀ k, h = some k → k < w.heap.size) (h1 : 1 < f.toNat) :
    Calls Try.prog 31 #[.agg #[.pointer (some ⟨g, 0, none⟩)]] w (OneEnd w g h (oneS (some (f :: r)))) := by
  have ht : takeS (some (f :: r)) 1 = (f.toNat, 0, some r) := by simp [takeS, leval]
  have hs : oneS (some (f :: r)) = (Chg.zero, 5, some r) := by unfold oneS; dsimp only; rw [if_pos h1]
  rw [hs]
  clear hs
  have hf := f.toNat_lt
  have hgw := r0.lt
  have hbel : Below w.heap.size w ((w.alloc (.cells #[.pointer (some ⟨g, 0, none⟩)] 67)).alloc (.cells #[.int .i64 0, .int .u8 0, .string ⟨#[]⟩, .int .i64 0, .slice none 0 0, .bool false] 53)) := ((Below.refl _ _).alloc (Nat.le_refl _) _).alloc (by simp) _
  have hA := (Blk.new w 67 #[.pointer (some ⟨g, 0, none⟩)]).alloc (.cells #[.int .i64 0, .int .u8 0, .string ⟨#[]⟩, .int .i64 0, .slice none 0 0, .bool false] 53)
  have hZ := Blk.new (w.alloc (.cells #[.pointer (some ⟨g, 0, none⟩)] 67)) 53 #[.int .i64 0, .int .u8 0, .string ⟨#[]⟩, .int .i64 0, .slice none 0 0, .bool false]
  rw [alloc_sz] at hZ
  have H0 := Lib.hid (And.intro (r0.below hbel) (And.intro hA (And.intro hZ (And.intro hh (grown_of_below hbel (some g))))))
  have HT := Lib.hid ht
  clear r0 hbel hA hZ hh ht
  go_enter Try.func31, Try.ntmps31
  go_wp2_with fail
  refine (take_any (s := 1) H0.out.1 (.inl rfl)).mono ?_
  rintro e w1 ⟨rfl, hr1, hg1⟩
  rw [HT.out] at hr1 ⊢
  dsimp only at hr1 ⊢
  have hA1 := H0.out.2.1.grown hg1 (fun e => by injection e with e; omega)
  have hZ1 := H0.out.2.2.1.grown hg1 (fun e => by injection e with e; omega)
  have hg2 := grown_trans H0.out.2.2.2.2 hg1
  have hs1 := hZ1.lt
  have a0 := hA1.cell 0
  simp at a0
  have z0 := hZ1.cell 0
  have f0 := hZ1.frozen 0
  have z1 := hZ1.cell 1
  have f1 := hZ1.frozen 1
  have z2 := hZ1.cell 2
  have f2 := hZ1.frozen 2
  have z3 := hZ1.cell 3
  have f3 := hZ1.frozen 3
  have z4 := hZ1.cell 4
  have f4 := hZ1.frozen 4
  have z5 := hZ1.cell 5
  have f5 := hZ1.frozen 5
  simp at z0 z1 z2 z3 z4 z5
  have H1 := Lib.hid (And.intro hr1 (And.intro hA1 (And.intro hZ1 hg2)))
  clear hr1 hA1 hZ1 hg1 hg2
  have hd : (1 : Int) < (f.toNat : Int) := by omega
  go_wp2_with fail
  refine post_cell2 Try.results31 Try.underlying53 rfl _ rfl (H1.out.2.2.1.set6 _ _ _ _ _ _) (by kernel_rfl) ?_
  exact ⟨.slice none 0 0, rfl, OwnB.nil _ _ _, rd_set6 H1.out.1 (by omega) (fun k hk => by have := H0.out.2.2.2.1 k hk; omega) _ _ _ _ _ _, grown_set6 H1.out.2.2.2 (by omega) _ _ _ _ _ _⟩


set_option maxRecDepth 100000 in
set_option maxHeartbeats 2000000 in
theorem one_key_no {w : World} {g : Nat} {h : Option Nat} {f : UInt8} {r : List UInt8} (r0 : Rd w g h (some (f :: r))) (hh : ∀ k, h = some k → k < w.heap.size) (h1 : ¬ 1 < f.toNat) (hk : (getKeyS (some r)).2.1 ≠ 0) :
    Calls Try.prog 31 #[.agg #[.pointer (some ⟨g, 0, none⟩)]] w (OneEnd w g h (oneS (some (f :: r)))) := by
  have ht : takeS (some (f :: r)) 1 = (f.toNat, 0, some r) := by simp [takeS, leval]
  have hs : oneS (some (f :: r)) = (⟨(getKeyS (some r)).1, [], decide ((getKeyS (some r)).2.1 = 0)⟩, (getKeyS (some r)).2.1, (getKeyS (some r)).2.2) := by unfold oneS; dsimp only; rw [if_neg h1, if_pos (.inl hk)]
  rw [hs]
  clear hs
  obtain ⟨q, hq⟩ : ∃ q, getKeyS (some r) = q := ⟨_, rfl⟩
  have hc5 := getKeyS_code (some r)
  rw [hq] at hk hc5 ⊢
  have HQ := Lib.hid hq
  clear hq
  obtain ⟨key, code, st⟩ := q
  dsimp only at hk hc5 ⊢
  rw [decide_eq_false hk]
  have hgw := r0.lt
  have hbel : Below w.heap.size w ((w.alloc (.cells #[.pointer (some ⟨g, 0, none⟩)] 67)).alloc (.cells #[.int .i64 0, .int .u8 0, .string ⟨#[]⟩, .int .i64 0, .slice none 0 0, .bool false] 53)) := ((Below.refl _ _).alloc (Nat.le_refl _) _).alloc (by simp) _
  have hA := (Blk.new w 67 #[.pointer (some ⟨g, 0, none⟩)]).alloc (.cells #[.int .i64 0, .int .u8 0, .string ⟨#[]⟩, .int .i64 0, .slice none 0 0, .bool false] 53)
  have hZ := Blk.new (w.alloc (.cells #[.pointer (some ⟨g, 0, none⟩)] 67)) 53 #[.int .i64 0, .int .u8 0, .string ⟨#[]⟩, .int .i64 0, .slice none 0 0, .bool false]
  rw [alloc_sz] at hZ
  have H0 := Lib.hid (And.intro (r0.below hbel) (And.intro hA (And.intro hZ (And.intro hh (grown_of_below hbel (some g))))))
  have HT := Lib.hid ht
  clear r0 hbel hA hZ hh ht
  go_enter Try.func31, Try.ntmps31
  go_wp2_with fail
  refine (take_any (s := 1) H0.out.1 (.inl rfl)).mono ?_
  rintro e w1 ⟨rfl, hr1, hg1⟩
  rw [HT.out] at hr1 ⊢
  dsimp only at hr1 ⊢
  have hA1 := H0.out.2.1.grown hg1 (fun e => by injection e with e; omega)
  have hZ1 := H0.out.2.2.1.grown hg1 (fun e => by injection e with e; omega)
  have hg2 := grown_trans H0.out.2.2.2.2 hg1
  have hs1 := hZ1.lt
  have a0 := hA1.cell 0
  simp at a0
  have z0 := hZ1.cell 0
  have f0 := hZ1.frozen 0
  have z1 := hZ1.cell 1
  have f1 := hZ1.frozen 1
  have z2 := hZ1.cell 2
  have f2 := hZ1.frozen 2
  have z3 := hZ1.cell 3
  have f3 := hZ1.frozen 3
  have z4 := hZ1.cell 4
  have f4 := hZ1.frozen 4
  have z5 := hZ1.cell 5
  have f5 := hZ1.frozen 5
  simp at z0 z1 z2 z3 z4 z5
  have H1 := Lib.hid (And.intro hr1 (And.intro hA1 (And.intro hZ1 hg2)))
  clear hr1 hA1 hZ1 hg1 hg2
  have hd : ¬ (1 : Int) < (f.toNat : Int) := by omega
  have hf : (f.toNat : Int) ≤ 1 := by omega
  go_wp2_with fail
  refine (getKey_any H1.out.1 (fun k hk => by have := H0.out.2.2.2.1 k hk; omega)).mono ?_
  rintro e w2 ⟨rfl, hr2, hg3⟩
  rw [HQ.out] at hr2 ⊢
  dsimp only at hr2 ⊢
  have hA2 := H1.out.2.1.grown hg3 (fun e => by injection e with e; omega)
  have hZ2 := H1.out.2.2.1.grown hg3 (fun e => by injection e with e; omega)
  have hg4 := grown_trans H1.out.2.2.2 hg3
  have hs2 := hZ2.lt
  clear a0 z0 z1 z2 z3 z4 z5 f0 f1 f2 f3 f4 f5
  obtain ⟨ki, ka, ks, kc⟩ := key
  unfold Ky.val
  dsimp only
  have H2 := Lib.hid (And.intro (rd_alloc hr2 (.cells #[.int .i64 ki, .int .u8 (ka.toNat : Int), .string ks, .int .i64 kc] 39)) (And.intro (hA2.alloc (.cells #[.int .i64 ki, .int .u8 (ka.toNat : Int), .string ks, .int .i64 kc] 39)) (And.intro (hZ2.alloc (.cells #[.int .i64 ki, .int .u8 (ka.toNat : Int), .string ks, .int .i64 kc] 39)) (And.intro (grown_alloc hg4 (.cells #[.int .i64 ki, .int .u8 (ka.toNat : Int), .string ks, .int .i64 kc] 39)) (Blk.new w2 39 #[.int .i64 ki, .int .u8 (ka.toNat : Int), .string ks, .int .i64 kc])))))
  have HW2 := Lib.hid (And.intro hr2 (And.intro hA2 (And.intro hZ2 hg4)))
  have a0 := H2.out.2.1.cell 0
  simp at a0
  have z0 := hZ2.cell 0
  have f0 := hZ2.frozen 0
  have z1 := hZ2.cell 1
  have f1 := hZ2.frozen 1
  have z2 := hZ2.cell 2
  have f2 := hZ2.frozen 2
  have z3 := hZ2.cell 3
  have f3 := hZ2.frozen 3
  have z4 := hZ2.cell 4
  have f4 := hZ2.frozen 4
  have z5 := hZ2.cell 5
  have f5 := hZ2.frozen 5
  simp at z0 z1 z2 z3 z4 z5
  clear hr2 hA2 hZ2 hg3 hg4
  have hne : ((code : Int) != 0) = true := by simp; omega
  have hne2 : ((code : Int) == 0) = false := by simp; omega
  go_wp2_with fail
  refine post_cell2 Try.results31 Try.underlying53 rfl _ rfl ((HW2.out.2.2.1.set6 _ _ _ _ _ _).alloc _) (by kernel_rfl) ?_
  exact ⟨.slice none 0 0, rfl, OwnB.nil _ _ _, rd_alloc (rd_set6 HW2.out.1 (by omega) (fun k hk => by have := H0.out.2.2.2.1 k hk; omega) _ _ _ _ _ _) _, grown_alloc (grown_set6 HW2.out.2.2.2 (by omega) _ _ _ _ _ _) _⟩


set_option maxRecDepth 100000 in
set_option maxHeartbeats 2000000 in
theorem one_gone {w : World} {g : Nat} {h : Option Nat} {f : UInt8} {r : List UInt8} (r0 : Rd w g h (some (f :: r))) (hh : ∀ k, h = some k → k < w.heap.size) (h1 : f.toNat = 0) (hk : (getKeyS (some r)).2.1 = 0) :
    Calls Try.prog 31 #[.agg #[.pointer (some ⟨g, 0, none⟩)]] w (OneEnd w g h (oneS (some (f :: r)))) := by
  have ht : takeS (some (f :: r)) 1 = (f.toNat, 0, some r) := by simp [takeS, leval]
  have hs : oneS (some (f :: r)) = (⟨(getKeyS (some r)).1, [], decide ((getKeyS (some r)).2.1 = 0)⟩, (getKeyS (some r)).2.1, (getKeyS (some r)).2.2) := by unfold oneS; dsimp only; rw [if_neg (by omega), if_pos (.inr h1)]
  rw [hs]
  clear hs
  obtain ⟨q, hq⟩ : ∃ q, getKeyS (some r) = q := ⟨_, rfl⟩
  rw [hq] at hk ⊢
  have HQ := Lib.hid hq
  clear hq
  obtain ⟨key, code, st⟩ := q
  dsimp only at hk ⊢
  subst hk
  rw [decide_eq_true rfl]
  rw [h1] at ht
  have hgw := r0.lt
  have hbel : Below w.heap.size w ((w.alloc (.cells #[.pointer (some ⟨g, 0, none⟩)] 67)).alloc (.cells #[.int .i64 0, .int .u8 0, .string ⟨#[]⟩, .int .i64 0, .slice none 0 0, .bool false] 53)) := ((Below.refl _ _).alloc (Nat.le_refl _) _).alloc (by simp) _
  have hA := (Blk.new w 67 #[.pointer (some ⟨g, 0, none⟩)]).alloc (.cells #[.int .i64 0, .int .u8 0, .string ⟨#[]⟩, .int .i64 0, .slice none 0 0, .bool false] 53)
  have hZ := Blk.new (w.alloc (.cells #[.pointer (some ⟨g, 0, none⟩)] 67)) 53 #[.int .i64 0, .int .u8 0, .string ⟨#[]⟩, .int .i64 0, .slice none 0 0, .bool false]
  rw [alloc_sz] at hZ
  have H0 := Lib.hid (And.intro (r0.below hbel) (And.intro hA (And.intro hZ (And.intro hh (grown_of_below hbel (some g))))))
  have HT := Lib.hid ht
  clear r0 hbel hA hZ hh ht
  go_enter Try.func31, Try.ntmps31
  go_wp2_with fail
  refine (take_any (s := 1) H0.out.1 (.inl rfl)).mono ?_
  rintro e w1 ⟨rfl, hr1, hg1⟩
  rw [HT.out] at hr1 ⊢
  dsimp only at hr1 ⊢
  have hA1 := H0.out.2.1.grown hg1 (fun e => by injection e with e; omega)
  have hZ1 := H0.out.2.2.1.grown hg1 (fun e => by injection e with e; omega)
  have hg2 := grown_trans H0.out.2.2.2.2 hg1
  have hs1 := hZ1.lt
  have a0 := hA1.cell 0
  simp at a0
  have z0 := hZ1.cell 0
  have f0 := hZ1.frozen 0
  have z1 := hZ1.cell 1
  have f1 := hZ1.frozen 1
  have z2 := hZ1.cell 2
  have f2 := hZ1.frozen 2
  have z3 := hZ1.cell 3
  have f3 := hZ1.frozen 3
  have z4 := hZ1.cell 4
  have f4 := hZ1.frozen 4
  have z5 := hZ1.cell 5
  have f5 := hZ1.frozen 5
  simp at z0 z1 z2 z3 z4 z5
  have H1 := Lib.hid (And.intro hr1 (And.intro hA1 (And.intro hZ1 hg2)))
  clear hr1 hA1 hZ1 hg1 hg2
  go_wp2_with fail
  refine (getKey_any H1.out.1 (fun k hk => by have := H0.out.2.2.2.1 k hk; omega)).mono ?_
  rintro e w2 ⟨rfl, hr2, hg3⟩
  rw [HQ.out] at hr2 ⊢
  dsimp only at hr2 ⊢
  have hA2 := H1.out.2.1.grown hg3 (fun e => by injection e with e; omega)
  have hZ2 := H1.out.2.2.1.grown hg3 (fun e => by injection e with e; omega)
  have hg4 := grown_trans H1.out.2.2.2 hg3
  have hs2 := hZ2.lt
  clear a0 z0 z1 z2 z3 z4 z5 f0 f1 f2 f3 f4 f5
  obtain ⟨ki, ka, ks, kc⟩ := key
  unfold Ky.val
  dsimp only
  have H2 := Lib.hid (And.intro (rd_alloc hr2 (.cells #[.int .i64 ki, .int .u8 (ka.toNat : Int), .string ks, .int .i64 kc] 39)) (And.intro (hA2.alloc (.cells #[.int .i64 ki, .int .u8 (ka.toNat : Int), .string ks, .int .i64 kc] 39)) (And.intro (hZ2.alloc (.cells #[.int .i64 ki, .int .u8 (ka.toNat : Int), .string ks, .int .i64 kc] 39)) (And.intro (grown_alloc hg4 (.cells #[.int .i64 ki, .int .u8 (ka.toNat : Int), .string ks, .int .i64 kc] 39)) (Blk.new w2 39 #[.int .i64 ki, .int .u8 (ka.toNat : Int), .string ks, .int .i64 kc])))))
  have HW2 := Lib.hid (And.intro hr2 (And.intro hA2 (And.intro hZ2 hg4)))
  have a0 := H2.out.2.1.cell 0
  simp at a0
  have z0 := hZ2.cell 0
  have f0 := hZ2.frozen 0
  have z1 := hZ2.cell 1
  have f1 := hZ2.frozen 1
  have z2 := hZ2.cell 2
  have f2 := hZ2.frozen 2
  have z3 := hZ2.cell 3
  have f3 := hZ2.frozen 3
  have z4 := hZ2.cell 4
  have f4 := hZ2.frozen 4
  have z5 := hZ2.cell 5
  have f5 := hZ2.frozen 5
  simp at z0 z1 z2 z3 z4 z5
  clear hr2 hA2 hZ2 hg3 hg4
  go_wp2_with fail
  refine post_cell2 Try.results31 Try.underlying53 rfl _ rfl ((HW2.out.2.2.1.set6 _ _ _ _ _ _).alloc _) (by kernel_rfl) ?_
  exact ⟨.slice none 0 0, rfl, OwnB.nil _ _ _, rd_alloc (rd_set6 HW2.out.1 (by omega) (fun k hk => by have := H0.out.2.2.2.1 k hk; omega) _ _ _ _ _ _) _, grown_alloc (grown_set6 HW2.out.2.2.2 (by omega) _ _ _ _ _ _) _⟩


set_option maxRecDepth 100000 in
set_option maxHeartbeats 2000000 in
theorem one_row_no {w : World} {g : Nat} {h : Option Nat} {f : UInt8} {r : List UInt8} (r0 : Rd w g h (some (f :: r))) (hh : ∀ k, h = some k → k < w.heap.size) (h1 : f.toNat = 1) (hk : (getKeyS (some r)).2.1 = 0) (hrow : (rowS (getKeyS (some r)).2.2).2.1 ≠ 0) :
    Calls Try.prog 31 #[.agg #[.pointer (some ⟨g, 0, none⟩)]] w (OneEnd w g h (oneS (some (f :: r)))) := by
  have ht : takeS (some (f :: r)) 1 = (f.toNat, 0, some r) := by simp [takeS, leval]
  have hs : oneS (some (f :: r)) = (⟨(getKeyS (some r)).1, (rowS (getKeyS (some r)).2.2).1, false⟩, (rowS (getKeyS (some r)).2.2).2.1, (rowS (getKeyS (some r)).2.2).2.2) := by unfold oneS; dsimp only; rw [if_neg (by omega), if_neg (by omega), if_neg (fun h => hrow h.1)]
  rw [hs]
  clear hs
  obtain ⟨q, hq⟩ : ∃ q, getKeyS (some r) = q := ⟨_, rfl⟩
  rw [hq] at hk hrow ⊢
  have HQ := Lib.hid hq
  clear hq
  obtain ⟨key, code, st⟩ := q
  dsimp only at hk hrow ⊢
  subst hk
  rw [h1] at ht
  have hrw : rowS st = ([], 4, none) := rowS_no hrow
  have HR := Lib.hid hrw
  rw [hrw]
  clear hrw hrow
  have hgw := r0.lt
  have hbel : Below w.heap.size w ((w.alloc (.cells #[.pointer (some ⟨g, 0, none⟩)] 67)).alloc (.cells #[.int .i64 0, .int .u8 0, .string ⟨#[]⟩, .int .i64 0, .slice none 0 0, .bool false] 53)) := ((Below.refl _ _).alloc (Nat.le_refl _) _).alloc (by simp) _
  have hA := (Blk.new w 67 #[.pointer (some ⟨g, 0, none⟩)]).alloc (.cells #[.int .i64 0, .int .u8 0, .string ⟨#[]⟩, .int .i64 0, .slice none 0 0, .bool false] 53)
  have hZ := Blk.new (w.alloc (.cells #[.pointer (some ⟨g, 0, none⟩)] 67)) 53 #[.int .i64 0, .int .u8 0, .string ⟨#[]⟩, .int .i64 0, .slice none 0 0, .bool false]
  rw [alloc_sz] at hZ
  have H0 := Lib.hid (And.intro (r0.below hbel) (And.intro hA (And.intro hZ (And.intro hh (grown_of_below hbel (some g))))))
  have HT := Lib.hid ht
  clear r0 hbel hA hZ hh ht
  go_enter Try.func31, Try.ntmps31
  go_wp2_with fail
  refine (take_any (s := 1) H0.out.1 (.inl rfl)).mono ?_
  rintro e w1 ⟨rfl, hr1, hg1⟩
  rw [HT.out] at hr1 ⊢
  dsimp only at hr1 ⊢
  have hA1 := H0.out.2.1.grown hg1 (fun e => by injection e with e; omega)
  have hZ1 := H0.out.2.2.1.grown hg1 (fun e => by injection e with e; omega)
  have hg2 := grown_trans H0.out.2.2.2.2 hg1
  have hs1 := hZ1.lt
  have a0 := hA1.cell 0
  simp at a0
  have z0 := hZ1.cell 0
  have f0 := hZ1.frozen 0
  have z1 := hZ1.cell 1
  have f1 := hZ1.frozen 1
  have z2 := hZ1.cell 2
  have f2 := hZ1.frozen 2
  have z3 := hZ1.cell 3
  have f3 := hZ1.frozen 3
  have z4 := hZ1.cell 4
  have f4 := hZ1.frozen 4
  have z5 := hZ1.cell 5
  have f5 := hZ1.frozen 5
  simp at z0 z1 z2 z3 z4 z5
  have H1 := Lib.hid (And.intro hr1 (And.intro hA1 (And.intro hZ1 hg2)))
  clear hr1 hA1 hZ1 hg1 hg2
  go_wp2_with fail
  refine (getKey_any H1.out.1 (fun k hk => by have := H0.out.2.2.2.1 k hk; omega)).mono ?_
  rintro e w2 ⟨rfl, hr2, hg3⟩
  rw [HQ.out] at hr2 ⊢
  dsimp only at hr2 ⊢
  have hA2 := H1.out.2.1.grown hg3 (fun e => by injection e with e; omega)
  have hZ2 := H1.out.2.2.1.grown hg3 (fun e => by injection e with e; omega)
  have hg4 := grown_trans H1.out.2.2.2 hg3
  have hs2 := hZ2.lt
  clear a0 z0 z1 z2 z3 z4 z5 f0 f1 f2 f3 f4 f5
  obtain ⟨ki, ka, ks, kc⟩ := key
  unfold Ky.val
  dsimp only
  have H2 := Lib.hid (And.intro (rd_alloc hr2 (.cells #[.int .i64 ki, .int .u8 (ka.toNat : Int), .string ks, .int .i64 kc] 39)) (And.intro (hA2.alloc (.cells #[.int .i64 ki, .int .u8 (ka.toNat : Int), .string ks, .int .i64 kc] 39)) (And.intro (hZ2.alloc (.cells #[.int .i64 ki, .int .u8 (ka.toNat : Int), .string ks, .int .i64 kc] 39)) (And.intro (grown_alloc hg4 (.cells #[.int .i64 ki, .int .u8 (ka.toNat : Int), .string ks, .int .i64 kc] 39)) (Blk.new w2 39 #[.int .i64 ki, .int .u8 (ka.toNat : Int), .string ks, .int .i64 kc])))))
  have HW2 := Lib.hid (And.intro hr2 (And.intro hA2 (And.intro hZ2 hg4)))
  have a0 := H2.out.2.1.cell 0
  simp at a0
  have z0 := hZ2.cell 0
  have f0 := hZ2.frozen 0
  have z1 := hZ2.cell 1
  have f1 := hZ2.frozen 1
  have z2 := hZ2.cell 2
  have f2 := hZ2.frozen 2
  have z3 := hZ2.cell 3
  have f3 := hZ2.frozen 3
  have z4 := hZ2.cell 4
  have f4 := hZ2.frozen 4
  have z5 := hZ2.cell 5
  have f5 := hZ2.frozen 5
  simp at z0 z1 z2 z3 z4 z5
  clear hr2 hA2 hZ2 hg3 hg4
  go_wp2_with fail
  refine (row_any H2.out.1).mono ?_
  rintro e w3 ⟨v3, rfl, ho3, hr3, hg5⟩
  rw [HR.out] at ho3 hr3 ⊢
  dsimp only at ho3 hr3 ⊢
  have hlk := H2.out.2.2.2.2.lt
  have hZ3 := H2.out.2.2.1.grown hg5 (fun e => by injection e with e; omega)
  have hK3 := H2.out.2.2.2.2.grown hg5 (fun e => by injection e with e; omega)
  have hA3 := H2.out.2.1.grown hg5 (fun e => by injection e with e; omega)
  have hg6 := grown_trans H2.out.2.2.2.1 hg5
  clear a0 z0 z1 z2 z3 z4 z5 f0 f1 f2 f3 f4 f5
  obtain ⟨A3, d3, rfl, _, _, _, _⟩ := ho3.slice
  have H3 := Lib.hid (And.intro hr3 (And.intro hA3 (And.intro hZ3 (And.intro hg6 ho3))))
  have z0 := hZ3.cell 0
  have f0 := hZ3.frozen 0
  have z1 := hZ3.cell 1
  have f1 := hZ3.frozen 1
  have z2 := hZ3.cell 2
  have f2 := hZ3.frozen 2
  have z3 := hZ3.cell 3
  have f3 := hZ3.frozen 3
  have z4 := hZ3.cell 4
  have f4 := hZ3.frozen 4
  have z5 := hZ3.cell 5
  have f5 := hZ3.frozen 5
  simp at z0 z1 z2 z3 z4 z5
  have k0 := hK3.cell 0
  have k1 := hK3.cell 1
  have k2 := hK3.cell 2
  have k3 := hK3.cell 3
  simp at k0 k1 k2 k3
  have hsw : w.heap.size + 1 < (w2.alloc (.cells #[.int .i64 ki, .int .u8 (ka.toNat : Int), .string ks, .int .i64 kc] 39)).heap.size := by rw [alloc_sz]; omega
  clear hr3 hZ3 hK3 hA3 hg5 hg6 ho3
  simp only [List.length_nil] at *
  go_wp2_with fail
  refine post_cell2 Try.results31 Try.underlying53 rfl _ rfl (H3.out.2.2.1.set6 _ _ _ _ _ _) (by kernel_rfl) ?_
  exact ⟨_, rfl, (ownB6 H3.out.2.2.2.2 (by omega) _ _ _ _ _ _).lower (by omega), rd_set6 H3.out.1 (by omega) (fun k hk => by have := H0.out.2.2.2.1 k hk; omega) _ _ _ _ _ _, grown_set6 H3.out.2.2.2.1 (by omega) _ _ _ _ _ _⟩


set_option maxRecDepth 100000 in
set_option maxHeartbeats 2000000 in
theorem one_row_nil {w : World} {g : Nat} {h : Option Nat} {f : UInt8} {r : List UInt8} (r0 : Rd w g h (some (f :: r))) (hh : ∀ k, h = some k → k < w.heap.size) (h1 : f.toNat = 1) (hk : (getKeyS (some r)).2.1 = 0) (hrow : (rowS (getKeyS (some r)).2.2).2.1 = 0 ∧ (rowS (getKeyS (some r)).2.2).1.length = 0) :
    Calls Try.prog 31 #[.agg #[.pointer (some ⟨g, 0, none⟩)]] w (OneEnd w g h (oneS (some (f :: r)))) := by
  have ht : takeS (some (f :: r)) 1 = (f.toNat, 0, some r) := by simp [takeS, leval]
  have hs : oneS (some (f :: r)) = (⟨(getKeyS (some r)).1, [], false⟩, 5, (rowS (getKeyS (some r)).2.2).2.2) := by unfold oneS; dsimp only; rw [if_neg (by omega), if_neg (by omega), if_pos hrow]
  rw [hs]
  clear hs
  obtain ⟨q, hq⟩ : ∃ q, getKeyS (some r) = q := ⟨_, rfl⟩
  rw [hq] at hk hrow ⊢
  have HQ := Lib.hid hq
  clear hq
  obtain ⟨key, code, st⟩ := q
  dsimp only at hk hrow ⊢
  subst hk
  rw [h1] at ht
  obtain ⟨st', hst'⟩ : ∃ st', (rowS st).2.2 = st' := ⟨_, rfl⟩
  have hrw : rowS st = ([], 0, st') := by
    have e1 := List.eq_nil_of_length_eq_zero hrow.2
    rw [← hst', ← e1, ← hrow.1]
  have HR := Lib.hid hrw
  rw [hst']
  clear hrw hrow hst'
  have hgw := r0.lt
  have hbel : Below w.heap.size w ((w.alloc (.cells #[.pointer (some ⟨g, 0, none⟩)] 67)).alloc (.cells #[.int .i64 0, .int .u8 0, .string ⟨#[]⟩, .int .i64 0, .slice none 0 0, .bool false] 53)) := ((Below.refl _ _).alloc (Nat.le_refl _) _).alloc (by simp) _
  have hA := (Blk.new w 67 #[.pointer (some ⟨g, 0, none⟩)]).alloc (.cells #[.int .i64 0, .int .u8 0, .string ⟨#[]⟩, .int .i64 0, .slice none 0 0, .bool false] 53)
  have hZ := Blk.new (w.alloc (.cells #[.pointer (some ⟨g, 0, none⟩)] 67)) 53 #[.int .i64 0, .int .u8 0, .string ⟨#[]⟩, .int .i64 0, .slice none 0 0, .bool false]
  rw [alloc_sz] at hZ
  have H0 := Lib.hid (And.intro (r0.below hbel) (And.intro hA (And.intro hZ (And.intro hh (grown_of_below hbel (some g))))))
  have HT := Lib.hid ht
  clear r0 hbel hA hZ hh ht
  go_enter Try.func31, Try.ntmps31
  go_wp2_with fail
  refine (take_any (s := 1) H0.out.1 (.inl rfl)).mono ?_
  rintro e w1 ⟨rfl, hr1, hg1⟩
  rw [HT.out] at hr1 ⊢
  dsimp only at hr1 ⊢
  have hA1 := H0.out.2.1.grown hg1 (fun e => by injection e with e; omega)
  have hZ1 := H0.out.2.2.1.grown hg1 (fun e => by injection e with e; omega)
  have hg2 := grown_trans H0.out.2.2.2.2 hg1
  have hs1 := hZ1.lt
  have a0 := hA1.cell 0
  simp at a0
  have z0 := hZ1.cell 0
  have f0 := hZ1.frozen 0
  have z1 := hZ1.cell 1
  have f1 := hZ1.frozen 1
  have z2 := hZ1.cell 2
  have f2 := hZ1.frozen 2
  have z3 := hZ1.cell 3
  have f3 := hZ1.frozen 3
  have z4 := hZ1.cell 4
  have f4 := hZ1.frozen 4
  have z5 := hZ1.cell 5
  have f5 := hZ1.frozen 5
  simp at z0 z1 z2 z3 z4 z5
  have H1 := Lib.hid (And.intro hr1 (And.intro hA1 (And.intro hZ1 hg2)))
  clear hr1 hA1 hZ1 hg1 hg2
  go_wp2_with fail
  refine (getKey_any H1.out.1 (fun k hk => by have := H0.out.2.2.2.1 k hk; omega)).mono ?_
  rintro e w2 ⟨rfl, hr2, hg3⟩
  rw [HQ.out] at hr2 ⊢
  dsimp only at hr2 ⊢
  have hA2 := H1.out.2.1.grown hg3 (fun e => by injection e with e; omega)
  have hZ2 := H1.out.2.2.1.grown hg3 (fun e => by injection e with e; omega)
  have hg4 := grown_trans H1.out.2.2.2 hg3
  have hs2 := hZ2.lt
  clear a0 z0 z1 z2 z3 z4 z5 f0 f1 f2 f3 f4 f5
  obtain ⟨ki, ka, ks, kc⟩ := key
  unfold Ky.val
  dsimp only
  have H2 := Lib.hid (And.intro (rd_alloc hr2 (.cells #[.int .i64 ki, .int .u8 (ka.toNat : Int), .string ks, .int .i64 kc] 39)) (And.intro (hA2.alloc (.cells #[.int .i64 ki, .int .u8 (ka.toNat : Int), .string ks, .int .i64 kc] 39)) (And.intro (hZ2.alloc (.cells #[.int .i64 ki, .int .u8 (ka.toNat : Int), .string ks, .int .i64 kc] 39)) (And.intro (grown_alloc hg4 (.cells #[.int .i64 ki, .int .u8 (ka.toNat : Int), .string ks, .int .i64 kc] 39)) (Blk.new w2 39 #[.int .i64 ki, .int .u8 (ka.toNat : Int), .string ks, .int .i64 kc])))))
  have HW2 := Lib.hid (And.intro hr2 (And.intro hA2 (And.intro hZ2 hg4)))
  have a0 := H2.out.2.1.cell 0
  simp at a0
  have z0 := hZ2.cell 0
  have f0 := hZ2.frozen 0
  have z1 := hZ2.cell 1
  have f1 := hZ2.frozen 1
  have z2 := hZ2.cell 2
  have f2 := hZ2.frozen 2
  have z3 := hZ2.cell 3
  have f3 := hZ2.frozen 3
  have z4 := hZ2.cell 4
  have f4 := hZ2.frozen 4
  have z5 := hZ2.cell 5
  have f5 := hZ2.frozen 5
  simp at z0 z1 z2 z3 z4 z5
  clear hr2 hA2 hZ2 hg3 hg4
  go_wp2_with fail
  refine (row_any H2.out.1).mono ?_
  rintro e w3 ⟨v3, rfl, ho3, hr3, hg5⟩
  rw [HR.out] at ho3 hr3 ⊢
  dsimp only at ho3 hr3 ⊢
  have hlk := H2.out.2.2.2.2.lt
  have hZ3 := H2.out.2.2.1.grown hg5 (fun e => by injection e with e; omega)
  have hK3 := H2.out.2.2.2.2.grown hg5 (fun e => by injection e with e; omega)
  have hA3 := H2.out.2.1.grown hg5 (fun e => by injection e with e; omega)
  have hg6 := grown_trans H2.out.2.2.2.1 hg5
  clear a0 z0 z1 z2 z3 z4 z5 f0 f1 f2 f3 f4 f5
  obtain ⟨A3, d3, rfl, _, _, _, _⟩ := ho3.slice
  have H3 := Lib.hid (And.intro hr3 (And.intro hA3 (And.intro hZ3 (And.intro hg6 ho3))))
  have z0 := hZ3.cell 0
  have f0 := hZ3.frozen 0
  have z1 := hZ3.cell 1
  have f1 := hZ3.frozen 1
  have z2 := hZ3.cell 2
  have f2 := hZ3.frozen 2
  have z3 := hZ3.cell 3
  have f3 := hZ3.frozen 3
  have z4 := hZ3.cell 4
  have f4 := hZ3.frozen 4
  have z5 := hZ3.cell 5
  have f5 := hZ3.frozen 5
  simp at z0 z1 z2 z3 z4 z5
  have k0 := hK3.cell 0
  have k1 := hK3.cell 1
  have k2 := hK3.cell 2
  have k3 := hK3.cell 3
  simp at k0 k1 k2 k3
  have hsw : w.heap.size + 1 < (w2.alloc (.cells #[.int .i64 ki, .int .u8 (ka.toNat : Int), .string ks, .int .i64 kc] 39)).heap.size := by rw [alloc_sz]; omega
  clear hr3 hZ3 hK3 hA3 hg5 hg6 ho3
  simp only [List.length_nil] at *
  go_wp2_with fail
  refine post_cell2 Try.results31 Try.underlying53 rfl _ rfl (H3.out.2.2.1.set6 _ _ _ _ _ _) (by kernel_rfl) ?_
  exact ⟨_, rfl, (ownB6 H3.out.2.2.2.2 (by omega) _ _ _ _ _ _).lower (by omega), rd_set6 H3.out.1 (by omega) (fun k hk => by have := H0.out.2.2.2.1 k hk; omega) _ _ _ _ _ _, grown_set6 H3.out.2.2.2.1 (by omega) _ _ _ _ _ _⟩


set_option maxRecDepth 100000 in
set_option maxHeartbeats 2000000 in
theorem one_row_ok {w : World} {g : Nat} {h : Option Nat} {f : UInt8} {r : List UInt8} (r0 : Rd w g h (some (f :: r))) (hh : ∀ k, h = some k → k < w.heap.size) (h1 : f.toNat = 1) (hk : (getKeyS (some r)).2.1 = 0) (hrow : (rowS (getKeyS (some r)).2.2).2.1 = 0 ∧ 0 < (rowS (getKeyS (some r)).2.2).1.length) :
    Calls Try.prog 31 #[.agg #[.pointer (some ⟨g, 0, none⟩)]] w (OneEnd w g h (oneS (some (f :: r)))) := by
  have ht : takeS (some (f :: r)) 1 = (f.toNat, 0, some r) := by simp [takeS, leval]
  have hs : oneS (some (f :: r)) = (⟨(getKeyS (some r)).1, (rowS (getKeyS (some r)).2.2).1, false⟩, (rowS (getKeyS (some r)).2.2).2.1, (rowS (getKeyS (some r)).2.2).2.2) := by unfold oneS; dsimp only; rw [if_neg (by omega), if_neg (by omega), if_neg (fun h => by omega)]
  rw [hs]
  clear hs
  obtain ⟨q, hq⟩ : ∃ q, getKeyS (some r) = q := ⟨_, rfl⟩
  rw [hq] at hk hrow ⊢
  have HQ := Lib.hid hq
  clear hq
  obtain ⟨key, code, st⟩ := q
  dsimp only at hk hrow ⊢
  subst hk
  rw [h1] at ht
  obtain ⟨st', hst'⟩ : ∃ st', (rowS st).2.2 = st' := ⟨_, rfl⟩
  obtain ⟨x, hx⟩ : ∃ x, (rowS st).1 = x := ⟨_, rfl⟩
  have hrw : rowS st = (x, 0, st') := by rw [← hst', ← hx, ← hrow.1]
  have HR := Lib.hid hrw
  have hpos := hrow.2
  rw [hx] at hpos
  have hp2 : ((x.length : Int) == 0) = false := beq_eq_false_iff_ne.2 (by omega)
  rw [hrw]
  clear hrw hrow hst' hx
  have hgw := r0.lt
  have hbel : Below w.heap.size w ((w.alloc (.cells #[.pointer (some ⟨g, 0, none⟩)] 67)).alloc (.cells #[.int .i64 0, .int .u8 0, .string ⟨#[]⟩, .int .i64 0, .slice none 0 0, .bool false] 53)) := ((Below.refl _ _).alloc (Nat.le_refl _) _).alloc (by simp) _
  have hA := (Blk.new w 67 #[.pointer (some ⟨g, 0, none⟩)]).alloc (.cells #[.int .i64 0, .int .u8 0, .string ⟨#[]⟩, .int .i64 0, .slice none 0 0, .bool false] 53)
  have hZ := Blk.new (w.alloc (.cells #[.pointer (some ⟨g, 0, none⟩)] 67)) 53 #[.int .i64 0, .int .u8 0, .string ⟨#[]⟩, .int .i64 0, .slice none 0 0, .bool false]
  rw [alloc_sz] at hZ
  have H0 := Lib.hid (And.intro (r0.below hbel) (And.intro hA (And.intro hZ (And.intro hh (grown_of_below hbel (some g))))))
  have HT := Lib.hid ht
  clear r0 hbel hA hZ hh ht
  go_enter Try.func31, Try.ntmps31
  go_wp2_with fail
  refine (take_any (s := 1) H0.out.1 (.inl rfl)).mono ?_
  rintro e w1 ⟨rfl, hr1, hg1⟩
  rw [HT.out] at hr1 ⊢
  dsimp only at hr1 ⊢
  have hA1 := H0.out.2.1.grown hg1 (fun e => by injection e with e; omega)
  have hZ1 := H0.out.2.2.1.grown hg1 (fun e => by injection e with e; omega)
  have hg2 := grown_trans H0.out.2.2.2.2 hg1
  have hs1 := hZ1.lt
  have a0 := hA1.cell 0
  simp at a0
  have z0 := hZ1.cell 0
  have f0 := hZ1.frozen 0
  have z1 := hZ1.cell 1
  have f1 := hZ1.frozen 1
  have z2 := hZ1.cell 2
  have f2 := hZ1.frozen 2
  have z3 := hZ1.cell 3
  have f3 := hZ1.frozen 3
  have z4 := hZ1.cell 4
  have f4 := hZ1.frozen 4
  have z5 := hZ1.cell 5
  have f5 := hZ1.frozen 5
  simp at z0 z1 z2 z3 z4 z5
  have H1 := Lib.hid (And.intro hr1 (And.intro hA1 (And.intro hZ1 hg2)))
  clear hr1 hA1 hZ1 hg1 hg2
  go_wp2_with fail
  refine (getKey_any H1.out.1 (fun k hk => by have := H0.out.2.2.2.1 k hk; omega)).mono ?_
  rintro e w2 ⟨rfl, hr2, hg3⟩
  rw [HQ.out] at hr2 ⊢
  dsimp only at hr2 ⊢
  have hA2 := H1.out.2.1.grown hg3 (fun e => by injection e with e; omega)
  have hZ2 := H1.out.2.2.1.grown hg3 (fun e => by injection e with e; omega)
  have hg4 := grown_trans H1.out.2.2.2 hg3
  have hs2 := hZ2.lt
  clear a0 z0 z1 z2 z3 z4 z5 f0 f1 f2 f3 f4 f5
  obtain ⟨ki, ka, ks, kc⟩ := key
  unfold Ky.val
  dsimp only
  have H2 := Lib.hid (And.intro (rd_alloc hr2 (.cells #[.int .i64 ki, .int .u8 (ka.toNat : Int), .string ks, .int .i64 kc] 39)) (And.intro (hA2.alloc (.cells #[.int .i64 ki, .int .u8 (ka.toNat : Int), .string ks, .int .i64 kc] 39)) (And.intro (hZ2.alloc (.cells #[.int .i64 ki, .int .u8 (ka.toNat : Int), .string ks, .int .i64 kc] 39)) (And.intro (grown_alloc hg4 (.cells #[.int .i64 ki, .int .u8 (ka.toNat : Int), .string ks, .int .i64 kc] 39)) (Blk.new w2 39 #[.int .i64 ki, .int .u8 (ka.toNat : Int), .string ks, .int .i64 kc])))))
  have HW2 := Lib.hid (And.intro hr2 (And.intro hA2 (And.intro hZ2 hg4)))
  have a0 := H2.out.2.1.cell 0
  simp at a0
  have z0 := hZ2.cell 0
  have f0 := hZ2.frozen 0
  have z1 := hZ2.cell 1
  have f1 := hZ2.frozen 1
  have z2 := hZ2.cell 2
  have f2 := hZ2.frozen 2
  have z3 := hZ2.cell 3
  have f3 := hZ2.frozen 3
  have z4 := hZ2.cell 4
  have f4 := hZ2.frozen 4
  have z5 := hZ2.cell 5
  have f5 := hZ2.frozen 5
  simp at z0 z1 z2 z3 z4 z5
  clear hr2 hA2 hZ2 hg3 hg4
  go_wp2_with fail
  refine (row_any H2.out.1).mono ?_
  rintro e w3 ⟨v3, rfl, ho3, hr3, hg5⟩
  rw [HR.out] at ho3 hr3 ⊢
  dsimp only at ho3 hr3 ⊢
  have hlk := H2.out.2.2.2.2.lt
  have hZ3 := H2.out.2.2.1.grown hg5 (fun e => by injection e with e; omega)
  have hK3 := H2.out.2.2.2.2.grown hg5 (fun e => by injection e with e; omega)
  have hA3 := H2.out.2.1.grown hg5 (fun e => by injection e with e; omega)
  have hg6 := grown_trans H2.out.2.2.2.1 hg5
  clear a0 z0 z1 z2 z3 z4 z5 f0 f1 f2 f3 f4 f5
  obtain ⟨A3, d3, rfl, _, _, _, _⟩ := ho3.slice
  have H3 := Lib.hid (And.intro hr3 (And.intro hA3 (And.intro hZ3 (And.intro hg6 ho3))))
  have z0 := hZ3.cell 0
  have f0 := hZ3.frozen 0
  have z1 := hZ3.cell 1
  have f1 := hZ3.frozen 1
  have z2 := hZ3.cell 2
  have f2 := hZ3.frozen 2
  have z3 := hZ3.cell 3
  have f3 := hZ3.frozen 3
  have z4 := hZ3.cell 4
  have f4 := hZ3.frozen 4
  have z5 := hZ3.cell 5
  have f5 := hZ3.frozen 5
  simp at z0 z1 z2 z3 z4 z5
  have k0 := hK3.cell 0
  have k1 := hK3.cell 1
  have k2 := hK3.cell 2
  have k3 := hK3.cell 3
  simp at k0 k1 k2 k3
  have hsw : w.heap.size + 1 < (w2.alloc (.cells #[.int .i64 ki, .int .u8 (ka.toNat : Int), .string ks, .int .i64 kc] 39)).heap.size := by rw [alloc_sz]; omega
  clear hr3 hZ3 hK3 hA3 hg5 hg6 ho3
  generalize hX : x.length = n at *
  have HX := Lib.hid hX
  clear hX
  go_wp2_with fail
  refine post_cell2 Try.results31 Try.underlying53 rfl _ rfl (H3.out.2.2.1.set6 _ _ _ _ _ _) (by kernel_rfl) ?_
  exact ⟨_, rfl, (ownB6 H3.out.2.2.2.2 (by omega) _ _ _ _ _ _).lower (by omega), rd_set6 H3.out.1 (by omega) (fun k hk => by have := H0.out.2.2.2.1 k hk; omega) _ _ _ _ _ _, grown_set6 H3.out.2.2.2.1 (by omega) _ _ _ _ _ _⟩


theorem one_any {w : World} {g : Nat} {h : Option Nat} {st : Option (List UInt8)} (r0 : Rd w g h st) (hh : ∀ k, h = some k → k < w.heap.size) :
    Calls Try.prog 31 #[.agg #[.pointer (some ⟨g, 0, none⟩)]] w (OneEnd w g h (oneS st)) := by
  match st, r0 with
  | none, r0 => exact one_short r0 hh (fun _ _ h => by cases h)
  | some [], r0 => exact one_short r0 hh (fun _ _ h => by cases h)
  | some (f :: r), r0 =>
    by_cases h1 : 1 < f.toNat
    · exact one_flag r0 hh h1
    · by_cases hk : (getKeyS (some r)).2.1 = 0
      · by_cases h0 : f.toNat = 0
        · exact one_gone r0 hh h0 hk
        · have h1' : f.toNat = 1 := by omega
          by_cases hr : (rowS (getKeyS (some r)).2.2).2.1 = 0
          · by_cases hl : (rowS (getKeyS (some r)).2.2).1.length = 0
            · exact one_row_nil r0 hh h1' hk ⟨hr, hl⟩
            · exact one_row_ok r0 hh h1' hk ⟨hr, by omega⟩
          · exact one_row_no r0 hh h1' hk hr
      · exact one_key_no r0 hh h1 hk
end Go.Proofs.Ytckpgbkabbddnaa
