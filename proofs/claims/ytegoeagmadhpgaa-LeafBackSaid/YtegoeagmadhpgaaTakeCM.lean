import Derived.Test.YtegoeagmadhpgaaLeafRM
import Derived.Test.YtegoeagmadhpgaaTakeFM
import Derived.Test.YtegoeagmadhpgaaMTake
set_option linter.unusedVariables false
set_option linter.unusedSimpArgs false
/- Layer 15: what stands behind a child's key: contract. -/
namespace Go.Proofs.Ytegoeagmadhpgaa
open Go.RowKit

theorem Blk.set6c {w : World} {g : Nat} {t : TypeId} {a b c d e f : Value} (h : Blk w g t #[a, b, c, d, e, f]) (a' b' c' d' e' f' : Value) :
    Blk ((((((w.setCell ⟨g, 0, none⟩ a').setCell ⟨g, 1, none⟩ b').setCell ⟨g, 2, none⟩ c').setCell ⟨g, 3, none⟩ d').setCell ⟨g, 4, none⟩ e').setCell ⟨g, 5, none⟩ f') g t #[a', b', c', d', e', f'] := by
  have := (((((h.set_ 0 a').set_ 1 b').set_ 2 c').set_ 3 d').set_ 4 e').set_ 5 f'
  simpa using this
theorem grown_set6c {w w2 : World} {row : Option Nat} (h : w.grownBy w2 row) {R : Nat} (hR : w.heap.size ≤ R) (a b c d e f : Value) :
    w.grownBy ((((((w2.setCell ⟨R, 0, none⟩ a).setCell ⟨R, 1, none⟩ b).setCell ⟨R, 2, none⟩ c).setCell ⟨R, 3, none⟩ d).setCell ⟨R, 4, none⟩ e).setCell ⟨R, 5, none⟩ f) row :=
  grown_new_set (grown_set5 h hR a b c d e) hR f
theorem rd_set6c {w : World} {g : Nat} {h : Option Nat} {st : Option (List UInt8)} (r : Rd w g h st) {R : Nat} (hg : g ≠ R) (hh : ∀ k, h = some k → k ≠ R) (a b c d e f : Value) :
    Rd ((((((w.setCell ⟨R, 0, none⟩ a).setCell ⟨R, 1, none⟩ b).setCell ⟨R, 2, none⟩ c).setCell ⟨R, 3, none⟩ d).setCell ⟨R, 4, none⟩ e).setCell ⟨R, 5, none⟩ f) g h st :=
  rd_far1 (rd_set5 r hg hh a b c d e) hg hh f
/-- Behind a key: a child, an error, what is left. -/
def tkC (k : Ky) (st : Option (List UInt8)) : Chd × Nat × Option (List UInt8) :=
  if (takeS st 1).2.1 ≠ 0 then (Chd.zero, (takeS st 1).2.1, (takeS st 1).2.2)
  else if (takeS (takeS st 1).2.2 1).2.1 ≠ 0 then (Chd.zero, (takeS (takeS st 1).2.2 1).2.1, (takeS (takeS st 1).2.2 1).2.2)
  else (⟨k, (takeS st 1).1, (takeS (takeS st 1).2.2 1).1⟩, 0, (takeS (takeS st 1).2.2 1).2.2)
def TakeCEnd (w : World) (g : Nat) (h : Option Nat) (r : Chd × Nat × Option (List UInt8)) (e : Ending) (w' : World) : Prop :=
  e = .returned (.tuple #[.agg (chdCells r.1 (.slice none 0 0)).toArray, .int .i64 (r.2.1 : Int)]) ∧ Rd w' g h r.2.2 ∧ w.grownBy w' (some g)
theorem takeS1_none {st : Option (List UInt8)} (h : ∀ f r, st ≠ some (f :: r)) : takeS st 1 = (0, 4, none) := by
  cases st with
  | none => rfl
  | some l =>
    cases l with
    | nil => rfl
    | cons f r => exact absurd rfl (h f r)
theorem takeS1_cons (f : UInt8) (r : List UInt8) : takeS (some (f :: r)) 1 = (f.toNat, 0, some r) := by simp [takeS, leval]
theorem st_cases (st : Option (List UInt8)) : (∃ f r, st = some (f :: r)) ∨ ∀ f r, st ≠ some (f :: r) := by
  cases st with
  | none => exact .inr fun _ _ h => by cases h
  | some l =>
    cases l with
    | nil => exact .inr fun _ _ h => by cases h
    | cons f r => exact .inl ⟨f, r, rfl⟩

set_option maxRecDepth 100000 in
set_option maxHeartbeats 2000000 in
theorem takeC_any {w : World} {g : Nat} {h : Option Nat} {st : Option (List UInt8)} (r0 : Rd w g h st) (hh : ∀ k, h = some k → k < w.heap.size) (k : Ky) :
    Calls Try.prog 47 #[.agg #[], .pointer (some ⟨g, 0, none⟩), k.val] w (TakeCEnd w g h (tkC k st)) := by
  obtain ⟨R, hR⟩ : ∃ R, tkC k st = R := ⟨_, rfl⟩
  rw [hR]
  obtain ⟨fi, fa, fs, fc⟩ := k
  unfold Ky.val
  dsimp only
  have hgw := r0.lt
  have HR0 := Lib.hid (And.intro r0 (And.intro hh hR))
  clear r0 hh hR
  have hbel : Below w.heap.size w (((w.alloc (.cells #[] 52)).alloc (.cells #[.int .i64 fi, .int .u8 (fa.toNat : Int), .string fs, .int .i64 fc] 30)).alloc (.cells #[.int .i64 0, .int .u8 0, .string ⟨#[]⟩, .int .i64 0, .int .i64 0, .int .i64 0] 73)) := (((Below.refl _ _).alloc (Nat.le_refl _) _).alloc (by simp) _).alloc (by simp; omega) _
  have hK := (Blk.new (w.alloc (.cells #[] 52)) 30 #[.int .i64 fi, .int .u8 (fa.toNat : Int), .string fs, .int .i64 fc]).alloc (.cells #[.int .i64 0, .int .u8 0, .string ⟨#[]⟩, .int .i64 0, .int .i64 0, .int .i64 0] 73)
  have hZ := Blk.new ((w.alloc (.cells #[] 52)).alloc (.cells #[.int .i64 fi, .int .u8 (fa.toNat : Int), .string fs, .int .i64 fc] 30)) 73 #[.int .i64 0, .int .u8 0, .string ⟨#[]⟩, .int .i64 0, .int .i64 0, .int .i64 0]
  simp only [alloc_sz] at hZ hK
  have H0 := Lib.hid (And.intro (HR0.out.1.below hbel) (And.intro hK (And.intro hZ (And.intro HR0.out.2.1 (grown_of_below hbel (some g))))))
  clear hbel hK hZ
  go_enter Try.func47, Try.ntmps47
  go_wp2_with fail
  refine (take_any (s := 1) H0.out.1 (.inl rfl)).mono ?_
  rintro e w1 ⟨rfl, hr1, hg1⟩
  have hK1 := H0.out.2.1.grown hg1 (fun e => by injection e with e; omega)
  have hZ1 := H0.out.2.2.1.grown hg1 (fun e => by injection e with e; omega)
  have hg2 := grown_trans H0.out.2.2.2.2 hg1
  have hs1 := hZ1.lt
  rcases st_cases st with ⟨f1, r1, rfl⟩ | hst
  · rw [takeS1_cons] at hr1 ⊢
    dsimp only at hr1 ⊢
    have hf1 := f1.toNat_lt
    have H1 := Lib.hid (And.intro hr1 (And.intro hK1 (And.intro hZ1 hg2)))
    clear hr1 hK1 hZ1 hg1 hg2
    go_wp2_with fail
    refine (take_any (s := 1) H1.out.1 (.inl rfl)).mono ?_
    rintro e w2 ⟨rfl, hr2, hg3⟩
    have hK2 := H1.out.2.1.grown hg3 (fun e => by injection e with e; omega)
    have hZ2 := H1.out.2.2.1.grown hg3 (fun e => by injection e with e; omega)
    have hg4 := grown_trans H1.out.2.2.2 hg3
    have hs2 := hZ2.lt
    have k0 := hK2.cell 0
    have k1 := hK2.cell 1
    have k2 := hK2.cell 2
    have k3 := hK2.cell 3
    simp at k0 k1 k2 k3
    have z0 := hZ2.cell 0
    have q0 := hZ2.frozen 0
    have z1 := hZ2.cell 1
    have q1 := hZ2.frozen 1
    have z2 := hZ2.cell 2
    have q2 := hZ2.frozen 2
    have z3 := hZ2.cell 3
    have q3 := hZ2.frozen 3
    have z4 := hZ2.cell 4
    have q4 := hZ2.frozen 4
    have z5 := hZ2.cell 5
    have q5 := hZ2.frozen 5
    simp at z0 z1 z2 z3 z4 z5
    rcases st_cases (some r1) with ⟨f2, r2, hr1'⟩ | hst
    · injection hr1' with hr1'
      subst hr1'
      rw [takeS1_cons] at hr2 ⊢
      dsimp only at hr2 ⊢
      have hf2 := f2.toNat_lt
      have hres := HR0.out.2.2
      unfold tkC at hres
      rw [takeS1_cons] at hres
      dsimp only at hres
      rw [takeS1_cons, if_neg (by simp), if_neg (by simp)] at hres
      have HF := Lib.hid hres
      have H2 := Lib.hid (And.intro hr2 (And.intro hZ2 hg4))
      clear hr2 hK2 hZ2 hg3 hg4 hres
      go_wp2_with fail
      rw [← HF.out]
      refine post_cell2 Try.results47 Try.underlying73 rfl _ rfl (H2.out.2.1.set6c _ _ _ _ _ _) (by kernel_rfl) ?_
      exact ⟨rfl, rd_set6c H2.out.1 (by omega) (fun k hk => by have := H0.out.2.2.2.1 k hk; omega) _ _ _ _ _ _, grown_set6c H2.out.2.2 (by omega) _ _ _ _ _ _⟩
    · rw [takeS1_none hst] at hr2 ⊢
      dsimp only at hr2 ⊢
      have hres := HR0.out.2.2
      unfold tkC at hres
      rw [takeS1_cons] at hres
      dsimp only at hres
      rw [takeS1_none hst, if_neg (by simp), if_pos (by simp)] at hres
      have HF := Lib.hid hres
      have H2 := Lib.hid (And.intro hr2 (And.intro hZ2 hg4))
      clear hr2 hK2 hZ2 hg3 hg4 hres hst k0 k1 k2 k3
      go_wp2_with fail
      rw [← HF.out]
      refine post_cell2 Try.results47 Try.underlying73 rfl _ rfl (H2.out.2.1.set6c _ _ _ _ _ _) (by kernel_rfl) ?_
      exact ⟨rfl, rd_set6c H2.out.1 (by omega) (fun k hk => by have := H0.out.2.2.2.1 k hk; omega) _ _ _ _ _ _, grown_set6c H2.out.2.2 (by omega) _ _ _ _ _ _⟩
  · rw [takeS1_none hst] at hr1 ⊢
    dsimp only at hr1 ⊢
    have z0 := hZ1.cell 0
    have q0 := hZ1.frozen 0
    have z1 := hZ1.cell 1
    have q1 := hZ1.frozen 1
    have z2 := hZ1.cell 2
    have q2 := hZ1.frozen 2
    have z3 := hZ1.cell 3
    have q3 := hZ1.frozen 3
    have z4 := hZ1.cell 4
    have q4 := hZ1.frozen 4
    have z5 := hZ1.cell 5
    have q5 := hZ1.frozen 5
    simp at z0 z1 z2 z3 z4 z5
    have hres := HR0.out.2.2
    unfold tkC at hres
    rw [takeS1_none hst, if_pos (by simp)] at hres
    have HF := Lib.hid hres
    have H2 := Lib.hid (And.intro hr1 (And.intro hZ1 hg2))
    clear hr1 hK1 hZ1 hg1 hg2 hres hst
    go_wp2_with fail
    rw [← HF.out]
    refine post_cell2 Try.results47 Try.underlying73 rfl _ rfl (H2.out.2.1.set6c _ _ _ _ _ _) (by kernel_rfl) ?_
    exact ⟨rfl, rd_set6c H2.out.1 (by omega) (fun k hk => by have := H0.out.2.2.2.1 k hk; omega) _ _ _ _ _ _, grown_set6c H2.out.2.2 (by omega) _ _ _ _ _ _⟩
end Go.Proofs.Ytegoeagmadhpgaa
