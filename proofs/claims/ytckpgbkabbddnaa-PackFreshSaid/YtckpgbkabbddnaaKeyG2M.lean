import Derived.Test.YtckpgbkabbddnaaKeyGM
set_option linter.unusedVariables false
set_option linter.unusedSimpArgs false
/- The next key: the program's contract, where there are three bytes. -/
namespace Go.Proofs.Ytckpgbkabbddnaa
open Go.RowKit

theorem rowS_no {st : Option (List UInt8)} (h : (rowS st).2.1 ≠ 0) : rowS st = ([], 4, none) := by
  unfold rowS at h ⊢
  split
  · rfl
  · rfl
  · split
    · rfl
    · rename_i hh
      exfalso
      apply h
      dsimp only
      rw [if_neg hh]
theorem rowS_len (r : List UInt8) : (rowS (some r)).1.length ≤ 255 := by
  unfold rowS
  split
  · simp
  · simp
  · rename_i b l _
    have := b.toNat_lt
    split
    · simp
    · simp only [List.length_take]
      omega

set_option maxRecDepth 100000 in
set_option maxHeartbeats 2000000 in
theorem getKey_node {w : World} {g : Nat} {h : Option Nat} {a b c : UInt8} {r : List UInt8} (r0 : Rd w g h (some (a :: b :: c :: r))) (hh : ∀ k, h = some k → k < w.heap.size) (h2 : c ≠ 2) (h3 : c ≠ 3) :
    Calls Try.prog 48 #[.pointer (some ⟨g, 0, none⟩)] w (GetKeyEnd w g h (getKeyS (some (a :: b :: c :: r)))) := by

  have hs : getKeyS (some (a :: b :: c :: r)) = finK ⟨((a.toNat + 256 * b.toNat : Nat) : Int), c, ⟨#[]⟩, 0⟩ (some r) := by
    unfold getKeyS
    dsimp only
    rw [if_neg h2, if_neg h3]
  rw [hs]
  clear hs
  have hgw := r0.lt
  have hr0 := r0.below ((Below.refl _ _).alloc (Nat.le_refl _) (.cells #[.int .i64 0, .int .u8 0, .string ⟨#[]⟩, .int .i64 0] 39))
  have hz0 := Blk.new w 39 #[.int .i64 0, .int .u8 0, .string ⟨#[]⟩, .int .i64 0]
  have H0 := Lib.hid (And.intro hr0 (And.intro hz0 hh))
  clear r0 hr0 hz0 hh
  have t1 : takeS (some (a :: b :: c :: r)) 2 = (a.toNat + 256 * b.toNat, 0, some (c :: r)) := by simp [takeS, leval]
  have t2 : takeS (some (c :: r)) 1 = (c.toNat, 0, some r) := by simp [takeS, leval]
  have l1 := a.toNat_lt
  have l2 := b.toNat_lt
  have l3 := c.toNat_lt
  obtain ⟨n1, hn1⟩ : ∃ n1, a.toNat + 256 * b.toNat = n1 := ⟨_, rfl⟩
  obtain ⟨n2, hn2⟩ : ∃ n2, c.toNat = n2 := ⟨_, rfl⟩
  rw [hn1] at t1
  try rw [hn1]
  rw [hn2] at t2 l3
  have hn : n1 < 65536 := by omega
  have hi2 : IntKind.u8.wrap (n2 : Int) = (n2 : Int) := by rw [IntKind.wrap_u8]; omega
  have HT := Lib.hid (And.intro t1 (And.intro t2 (And.intro hn1 hn2)))
  clear t1 t2 hn1 l1 l2
  go_enter Try.func48, Try.ntmps48
  go_wp2_with fail
  refine (take_any (s := 2) H0.out.1 (.inr (.inl rfl))).mono ?_
  rintro e w1 ⟨rfl, hr1, hg1⟩
  rw [HT.out.1] at hr1 ⊢
  dsimp only at hr1 ⊢
  have hz1 := H0.out.2.1.grown hg1 (fun e => by injection e with e; omega)
  have H1 := Lib.hid (And.intro hr1 (And.intro hz1 hg1))
  clear hr1 hz1 hg1
  go_wp2_with fail
  refine (take_any (s := 1) H1.out.1 (.inl rfl)).mono ?_
  rintro e w2 ⟨rfl, hr2, hg2⟩
  rw [HT.out.2.1] at hr2 ⊢
  dsimp only at hr2 ⊢
  have hz2 := H1.out.2.1.grown hg2 (fun e => by injection e with e; omega)
  have hlt2 : w.heap.size < w2.heap.size := hz2.lt
  have hgg := grown_trans (grown_from_alloc H1.out.2.2) hg2
  have H2 := Lib.hid (And.intro hr2 (And.intro hz2 hgg))
  clear hr2 hz2 hg2 hgg
  have q2 : ((n2 : Int) == 2) = false := beq_eq_false_iff_ne.2 fun e => h2 (UInt8.toNat.inj (by rw [hn2]; show n2 = 2; omega))
  have q3 : ((n2 : Int) == 3) = false := beq_eq_false_iff_ne.2 fun e => h3 (UInt8.toNat.inj (by rw [hn2]; show n2 = 3; omega))
  clear h2 h3
  clear hn2
  go_wp2_with fail
  have hE1 := rd_alloc H2.out.1 (.cells #[.int .i64 (n1 : Int), .int .u8 (n2 : Int), .string ⟨#[]⟩, .int .i64 0] 39)
  have hE2 := H2.out.2.1.alloc (.cells #[.int .i64 (n1 : Int), .int .u8 (n2 : Int), .string ⟨#[]⟩, .int .i64 0] 39)
  have hE3 := Blk.new w2 39 #[.int .i64 (n1 : Int), .int .u8 (n2 : Int), .string ⟨#[]⟩, .int .i64 0]
  have hE4 := grown_alloc H2.out.2.2 (.cells #[.int .i64 (n1 : Int), .int .u8 (n2 : Int), .string ⟨#[]⟩, .int .i64 0] 39)
  have HE := Lib.hid (And.intro hE1 (And.intro hE2 (And.intro hE3 hE4)))
  clear hE1 hE2 hE3 hE4
  have hcn : (n2 : Int) = (c.toNat : Int) := by rw [HT.out.2.2.2]
  rw [hcn]
  rw [hcn] at HE q2 q3
  refine (mayK_any _ ⟨(n1 : Int), c, ⟨#[]⟩, 0⟩ (show (0 : Nat) ≤ maxLen by decide)).mono ?_
  rintro e w9 ⟨rfl, hb9⟩
  have hZ9 := HE.out.2.1.below hb9 HE.out.2.1.lt
  have hK9 := HE.out.2.2.1.below hb9 HE.out.2.2.1.lt
  have hr9 := HE.out.1.below hb9
  have hg9 := grown_trans HE.out.2.2.2 (grown_of_below hb9 _)
  have f0 := hZ9.frozen 0
  have f1 := hZ9.frozen 1
  have f2 := hZ9.frozen 2
  have f3 := hZ9.frozen 3
  have z0 := hZ9.cell 0
  have z1 := hZ9.cell 1
  have z2 := hZ9.cell 2
  have z3 := hZ9.cell 3
  have m0 := hK9.cell 0
  have m1 := hK9.cell 1
  have m2 := hK9.cell 2
  have m3 := hK9.cell 3
  simp at z0 z1 z2 z3 m0 m1 m2 m3
  have H9 := Lib.hid (And.intro hr9 (And.intro hZ9 hg9))
  clear hr9 hZ9 hg9 hK9 hb9
  by_cases hm : mayK ⟨(n1 : Int), c, ⟨#[]⟩, 0⟩
  · have hfin : finK ⟨(n1 : Int), c, ⟨#[]⟩, 0⟩ (some r) = (⟨(n1 : Int), c, ⟨#[]⟩, 0⟩, 0, (some r)) := if_pos hm
    rw [decide_eq_true hm]
    have HF := Lib.hid hfin
    clear hm hfin
    go_wp2_with fail
    refine post_cell2 Try.results48 Try.underlying39 rfl _ rfl (H9.out.2.1.set4 _ _ _ _) (by kernel_rfl) ?_
    rw [HF.out]
    exact ⟨rfl, rd_set4 H9.out.1 (by omega) (fun k hk => Nat.ne_of_lt (H0.out.2.2 k hk)) _ _ _ _, grown_set4 H9.out.2.2 (Nat.le_refl _) _ _ _ _⟩
  · have hfin : finK ⟨(n1 : Int), c, ⟨#[]⟩, 0⟩ (some r) = (Ky.zero, 5, (some r)) := if_neg hm
    rw [decide_eq_false hm]
    have HF := Lib.hid hfin
    clear hm hfin
    go_wp2_with fail
    refine post_cell2 Try.results48 Try.underlying39 rfl _ rfl (H9.out.2.1.set4 _ _ _ _) (by kernel_rfl) ?_
    rw [HF.out]
    exact ⟨rfl, rd_set4 H9.out.1 (by omega) (fun k hk => Nat.ne_of_lt (H0.out.2.2 k hk)) _ _ _ _, grown_set4 H9.out.2.2 (Nat.le_refl _) _ _ _ _⟩

set_option maxRecDepth 100000 in
set_option maxHeartbeats 2000000 in
theorem getKey_piece_no {w : World} {g : Nat} {h : Option Nat} {a b c : UInt8} {r : List UInt8} (r0 : Rd w g h (some (a :: b :: c :: r))) (hh : ∀ k, h = some k → k < w.heap.size) (h3 : c = 3) (hnil : r = []) :
    Calls Try.prog 48 #[.pointer (some ⟨g, 0, none⟩)] w (GetKeyEnd w g h (getKeyS (some (a :: b :: c :: r)))) := by

  have hs : getKeyS (some (a :: b :: c :: r)) = (Ky.zero, 4, none) := by
    subst h3 hnil
    rfl
  rw [hs]
  clear hs
  subst hnil
  have hgw := r0.lt
  have hr0 := r0.below ((Below.refl _ _).alloc (Nat.le_refl _) (.cells #[.int .i64 0, .int .u8 0, .string ⟨#[]⟩, .int .i64 0] 39))
  have hz0 := Blk.new w 39 #[.int .i64 0, .int .u8 0, .string ⟨#[]⟩, .int .i64 0]
  have H0 := Lib.hid (And.intro hr0 (And.intro hz0 hh))
  clear r0 hr0 hz0 hh
  have t1 : takeS (some (a :: b :: c :: [])) 2 = (a.toNat + 256 * b.toNat, 0, some (c :: [])) := by simp [takeS, leval]
  have t2 : takeS (some (c :: [])) 1 = (c.toNat, 0, some []) := by simp [takeS, leval]
  have l1 := a.toNat_lt
  have l2 := b.toNat_lt
  have l3 := c.toNat_lt
  obtain ⟨n1, hn1⟩ : ∃ n1, a.toNat + 256 * b.toNat = n1 := ⟨_, rfl⟩
  obtain ⟨n2, hn2⟩ : ∃ n2, c.toNat = n2 := ⟨_, rfl⟩
  rw [hn1] at t1
  try rw [hn1]
  rw [hn2] at t2 l3
  have hn : n1 < 65536 := by omega
  have hi2 : IntKind.u8.wrap (n2 : Int) = (n2 : Int) := by rw [IntKind.wrap_u8]; omega
  have HT := Lib.hid (And.intro t1 (And.intro t2 (And.intro hn1 hn2)))
  clear t1 t2 hn1 l1 l2
  go_enter Try.func48, Try.ntmps48
  go_wp2_with fail
  refine (take_any (s := 2) H0.out.1 (.inr (.inl rfl))).mono ?_
  rintro e w1 ⟨rfl, hr1, hg1⟩
  rw [HT.out.1] at hr1 ⊢
  dsimp only at hr1 ⊢
  have hz1 := H0.out.2.1.grown hg1 (fun e => by injection e with e; omega)
  have H1 := Lib.hid (And.intro hr1 (And.intro hz1 hg1))
  clear hr1 hz1 hg1
  go_wp2_with fail
  refine (take_any (s := 1) H1.out.1 (.inl rfl)).mono ?_
  rintro e w2 ⟨rfl, hr2, hg2⟩
  rw [HT.out.2.1] at hr2 ⊢
  dsimp only at hr2 ⊢
  have hz2 := H1.out.2.1.grown hg2 (fun e => by injection e with e; omega)
  have hlt2 : w.heap.size < w2.heap.size := hz2.lt
  have hgg := grown_trans (grown_from_alloc H1.out.2.2) hg2
  have H2 := Lib.hid (And.intro hr2 (And.intro hz2 hgg))
  clear hr2 hz2 hg2 hgg
  have q2 : ((n2 : Int) == 2) = false := by rw [show n2 = 3 from by rw [← hn2, h3]; rfl]; rfl
  have q3 : ((n2 : Int) == 3) = true := by rw [show n2 = 3 from by rw [← hn2, h3]; rfl]; rfl
  clear h3 hn2
  have hE1 := rd_alloc H2.out.1 (.cells #[.int .i64 (n1 : Int), .int .u8 (n2 : Int), .string ⟨#[]⟩, .int .i64 0] 39)
  have hE2 := H2.out.2.1.alloc (.cells #[.int .i64 (n1 : Int), .int .u8 (n2 : Int), .string ⟨#[]⟩, .int .i64 0] 39)
  have hE3 := Blk.new w2 39 #[.int .i64 (n1 : Int), .int .u8 (n2 : Int), .string ⟨#[]⟩, .int .i64 0]
  have hE4 := grown_alloc H2.out.2.2 (.cells #[.int .i64 (n1 : Int), .int .u8 (n2 : Int), .string ⟨#[]⟩, .int .i64 0] 39)
  have HC := Lib.hid (And.intro hE1 (And.intro hE2 (And.intro hE3 hE4)))
  clear hE1 hE2 hE3 hE4
  go_wp2_with fail
  refine (take_any (s := 1) HC.out.1 (.inl rfl)).mono ?_
  rintro e w3 ⟨rfl, hr3, hg3⟩
  rw [show takeS (some []) 1 = (0, 4, none) from rfl] at hr3 ⊢
  dsimp only at hr3 ⊢
  have hK3 := HC.out.2.2.1.grown hg3 (fun e => by injection e with e; have := H2.out.2.2.size; omega)
  have hZ3 := HC.out.2.1.grown hg3 (fun e => by injection e with e; omega)
  have hg4 := grown_trans HC.out.2.2.2 hg3
  have hltK := hK3.lt
  have f0 := hZ3.frozen 0
  have z0 := hZ3.cell 0
  have j0 := hK3.frozen 0
  have m0 := hK3.cell 0
  have f1 := hZ3.frozen 1
  have z1 := hZ3.cell 1
  have j1 := hK3.frozen 1
  have m1 := hK3.cell 1
  have f2 := hZ3.frozen 2
  have z2 := hZ3.cell 2
  have j2 := hK3.frozen 2
  have m2 := hK3.cell 2
  have f3 := hZ3.frozen 3
  have z3 := hZ3.cell 3
  have j3 := hK3.frozen 3
  have m3 := hK3.cell 3
  simp at z0 z1 z2 z3 m0 m1 m2 m3
  have H3 := Lib.hid (And.intro hr3 (And.intro hZ3 (And.intro hK3 hg4)))
  clear hr3 hZ3 hK3 hg4 hg3
  have hneq : w2.heap.size ≠ w.heap.size := by omega
  go_wp2_with fail
  refine post_cell2 Try.results48 Try.underlying39 rfl _ rfl ((H3.out.2.1.far (p := ⟨w2.heap.size, 3, none⟩) hneq.symm _).set4 _ _ _ _) (by kernel_rfl) ?_
  exact ⟨rfl, rd_set4 (rd_far1 H3.out.1 (by omega) (fun k hk => by have := H0.out.2.2 k hk; omega) _) (by omega) (fun k hk => Nat.ne_of_lt (H0.out.2.2 k hk)) _ _ _ _, grown_set4 (grown_new_set H3.out.2.2.2 (by omega) _) (Nat.le_refl _) _ _ _ _⟩

set_option maxRecDepth 100000 in
set_option maxHeartbeats 2000000 in
theorem getKey_piece_ok {w : World} {g : Nat} {h : Option Nat} {a b c : UInt8} {r : List UInt8} {d : UInt8} (r0 : Rd w g h (some (a :: b :: c :: d :: r))) (hh : ∀ k, h = some k → k < w.heap.size) (h3 : c = 3) :
    Calls Try.prog 48 #[.pointer (some ⟨g, 0, none⟩)] w (GetKeyEnd w g h (getKeyS (some (a :: b :: c :: d :: r)))) := by

  have hs : getKeyS (some (a :: b :: c :: d :: r)) = finK ⟨((a.toNat + 256 * b.toNat : Nat) : Int), c, ⟨#[]⟩, (d.toNat : Int)⟩ (some r) := by
    subst h3
    rfl
  rw [hs]
  clear hs
  have l4 := d.toNat_lt
  have t3 : takeS (some (d :: r)) 1 = (d.toNat, 0, some r) := by simp [takeS, leval]
  obtain ⟨n3, hn3⟩ : ∃ n3, d.toNat = n3 := ⟨_, rfl⟩
  rw [hn3] at t3 l4
  rw [hn3]
  have HT3 := Lib.hid t3
  clear t3 hn3
  have hgw := r0.lt
  have hr0 := r0.below ((Below.refl _ _).alloc (Nat.le_refl _) (.cells #[.int .i64 0, .int .u8 0, .string ⟨#[]⟩, .int .i64 0] 39))
  have hz0 := Blk.new w 39 #[.int .i64 0, .int .u8 0, .string ⟨#[]⟩, .int .i64 0]
  have H0 := Lib.hid (And.intro hr0 (And.intro hz0 hh))
  clear r0 hr0 hz0 hh
  have t1 : takeS (some (a :: b :: c :: d :: r)) 2 = (a.toNat + 256 * b.toNat, 0, some (c :: d :: r)) := by simp [takeS, leval]
  have t2 : takeS (some (c :: d :: r)) 1 = (c.toNat, 0, some (d :: r)) := by simp [takeS, leval]
  have l1 := a.toNat_lt
  have l2 := b.toNat_lt
  have l3 := c.toNat_lt
  obtain ⟨n1, hn1⟩ : ∃ n1, a.toNat + 256 * b.toNat = n1 := ⟨_, rfl⟩
  obtain ⟨n2, hn2⟩ : ∃ n2, c.toNat = n2 := ⟨_, rfl⟩
  rw [hn1] at t1
  try rw [hn1]
  rw [hn2] at t2 l3
  have hn : n1 < 65536 := by omega
  have hi2 : IntKind.u8.wrap (n2 : Int) = (n2 : Int) := by rw [IntKind.wrap_u8]; omega
  have HT := Lib.hid (And.intro t1 (And.intro t2 (And.intro hn1 hn2)))
  clear t1 t2 hn1 l1 l2
  go_enter Try.func48, Try.ntmps48
  go_wp2_with fail
  refine (take_any (s := 2) H0.out.1 (.inr (.inl rfl))).mono ?_
  rintro e w1 ⟨rfl, hr1, hg1⟩
  rw [HT.out.1] at hr1 ⊢
  dsimp only at hr1 ⊢
  have hz1 := H0.out.2.1.grown hg1 (fun e => by injection e with e; omega)
  have H1 := Lib.hid (And.intro hr1 (And.intro hz1 hg1))
  clear hr1 hz1 hg1
  go_wp2_with fail
  refine (take_any (s := 1) H1.out.1 (.inl rfl)).mono ?_
  rintro e w2 ⟨rfl, hr2, hg2⟩
  rw [HT.out.2.1] at hr2 ⊢
  dsimp only at hr2 ⊢
  have hz2 := H1.out.2.1.grown hg2 (fun e => by injection e with e; omega)
  have hlt2 : w.heap.size < w2.heap.size := hz2.lt
  have hgg := grown_trans (grown_from_alloc H1.out.2.2) hg2
  have H2 := Lib.hid (And.intro hr2 (And.intro hz2 hgg))
  clear hr2 hz2 hg2 hgg
  have q2 : ((n2 : Int) == 2) = false := by rw [show n2 = 3 from by rw [← hn2, h3]; rfl]; rfl
  have q3 : ((n2 : Int) == 3) = true := by rw [show n2 = 3 from by rw [← hn2, h3]; rfl]; rfl
  clear h3 hn2
  have hE1 := rd_alloc H2.out.1 (.cells #[.int .i64 (n1 : Int), .int .u8 (n2 : Int), .string ⟨#[]⟩, .int .i64 0] 39)
  have hE2 := H2.out.2.1.alloc (.cells #[.int .i64 (n1 : Int), .int .u8 (n2 : Int), .string ⟨#[]⟩, .int .i64 0] 39)
  have hE3 := Blk.new w2 39 #[.int .i64 (n1 : Int), .int .u8 (n2 : Int), .string ⟨#[]⟩, .int .i64 0]
  have hE4 := grown_alloc H2.out.2.2 (.cells #[.int .i64 (n1 : Int), .int .u8 (n2 : Int), .string ⟨#[]⟩, .int .i64 0] 39)
  have HC := Lib.hid (And.intro hE1 (And.intro hE2 (And.intro hE3 hE4)))
  clear hE1 hE2 hE3 hE4
  go_wp2_with fail
  refine (take_any (s := 1) HC.out.1 (.inl rfl)).mono ?_
  rintro e w3 ⟨rfl, hr3, hg3⟩
  rw [HT3.out] at hr3 ⊢
  dsimp only at hr3 ⊢
  have hK3 := HC.out.2.2.1.grown hg3 (fun e => by injection e with e; have := H2.out.2.2.size; omega)
  have hZ3 := HC.out.2.1.grown hg3 (fun e => by injection e with e; omega)
  have hg4 := grown_trans HC.out.2.2.2 hg3
  have hltK := hK3.lt
  have f0 := hZ3.frozen 0
  have z0 := hZ3.cell 0
  have j0 := hK3.frozen 0
  have m0 := hK3.cell 0
  have f1 := hZ3.frozen 1
  have z1 := hZ3.cell 1
  have j1 := hK3.frozen 1
  have m1 := hK3.cell 1
  have f2 := hZ3.frozen 2
  have z2 := hZ3.cell 2
  have j2 := hK3.frozen 2
  have m2 := hK3.cell 2
  have f3 := hZ3.frozen 3
  have z3 := hZ3.cell 3
  have j3 := hK3.frozen 3
  have m3 := hK3.cell 3
  simp at z0 z1 z2 z3 m0 m1 m2 m3
  have H3 := Lib.hid (And.intro hr3 (And.intro hZ3 (And.intro hK3 hg4)))
  clear hr3 hZ3 hK3 hg4 hg3
  have hneq : w2.heap.size ≠ w.heap.size := by omega
  go_wp2_with fail
  have hE1 := rd_far1 (i := 3) H3.out.1 (L := w2.heap.size) (by omega) (fun k hk => by have := H0.out.2.2 k hk; omega) (.int .i64 (n3 : Int))
  have hE2 := H3.out.2.1.far (p := ⟨w2.heap.size, 3, none⟩) hneq.symm (.int .i64 (n3 : Int))
  have hE3 : Blk (w3.setCell ⟨w2.heap.size, 3, none⟩ (.int .i64 (n3 : Int))) w2.heap.size 39 #[.int .i64 (n1 : Int), .int .u8 (n2 : Int), .string ⟨#[]⟩, .int .i64 (n3 : Int)] := by
    have := H3.out.2.2.1.set_ 3 (.int .i64 (n3 : Int))
    simpa using this
  have hE4 := grown_new_set (R := w2.heap.size) (i := 3) H3.out.2.2.2 (by omega) (.int .i64 (n3 : Int))
  have HE := Lib.hid (And.intro hE1 (And.intro hE2 (And.intro hE3 hE4)))
  clear hE1 hE2 hE3 hE4
  have hcn : (n2 : Int) = (c.toNat : Int) := by rw [HT.out.2.2.2]
  rw [hcn] at HE
  rw [hcn]
  refine (mayK_any _ ⟨(n1 : Int), c, ⟨#[]⟩, (n3 : Int)⟩ (show (0 : Nat) ≤ maxLen by decide)).mono ?_
  rintro e w9 ⟨rfl, hb9⟩
  have hZ9 := HE.out.2.1.below hb9 HE.out.2.1.lt
  have hK9 := HE.out.2.2.1.below hb9 HE.out.2.2.1.lt
  have hr9 := HE.out.1.below hb9
  have hg9 := grown_trans HE.out.2.2.2 (grown_of_below hb9 _)
  have f0 := hZ9.frozen 0
  have f1 := hZ9.frozen 1
  have f2 := hZ9.frozen 2
  have f3 := hZ9.frozen 3
  have z0 := hZ9.cell 0
  have z1 := hZ9.cell 1
  have z2 := hZ9.cell 2
  have z3 := hZ9.cell 3
  have m0 := hK9.cell 0
  have m1 := hK9.cell 1
  have m2 := hK9.cell 2
  have m3 := hK9.cell 3
  simp at z0 z1 z2 z3 m0 m1 m2 m3
  have H9 := Lib.hid (And.intro hr9 (And.intro hZ9 hg9))
  clear hr9 hZ9 hg9 hK9 hb9
  by_cases hm : mayK ⟨(n1 : Int), c, ⟨#[]⟩, (n3 : Int)⟩
  · have hfin : finK ⟨(n1 : Int), c, ⟨#[]⟩, (n3 : Int)⟩ (some r) = (⟨(n1 : Int), c, ⟨#[]⟩, (n3 : Int)⟩, 0, (some r)) := if_pos hm
    rw [decide_eq_true hm]
    have HF := Lib.hid hfin
    clear hm hfin
    go_wp2_with fail
    refine post_cell2 Try.results48 Try.underlying39 rfl _ rfl (H9.out.2.1.set4 _ _ _ _) (by kernel_rfl) ?_
    rw [HF.out]
    exact ⟨rfl, rd_set4 H9.out.1 (by omega) (fun k hk => Nat.ne_of_lt (H0.out.2.2 k hk)) _ _ _ _, grown_set4 H9.out.2.2 (Nat.le_refl _) _ _ _ _⟩
  · have hfin : finK ⟨(n1 : Int), c, ⟨#[]⟩, (n3 : Int)⟩ (some r) = (Ky.zero, 5, (some r)) := if_neg hm
    rw [decide_eq_false hm]
    have HF := Lib.hid hfin
    clear hm hfin
    go_wp2_with fail
    refine post_cell2 Try.results48 Try.underlying39 rfl _ rfl (H9.out.2.1.set4 _ _ _ _) (by kernel_rfl) ?_
    rw [HF.out]
    exact ⟨rfl, rd_set4 H9.out.1 (by omega) (fun k hk => Nat.ne_of_lt (H0.out.2.2 k hk)) _ _ _ _, grown_set4 H9.out.2.2 (Nat.le_refl _) _ _ _ _⟩

set_option maxRecDepth 100000 in
set_option maxHeartbeats 2000000 in
theorem getKey_row_no {w : World} {g : Nat} {h : Option Nat} {a b c : UInt8} {r : List UInt8} (r0 : Rd w g h (some (a :: b :: c :: r))) (hh : ∀ k, h = some k → k < w.heap.size) (h2 : c = 2) (hrow : (rowS (some r)).2.1 ≠ 0) :
    Calls Try.prog 48 #[.pointer (some ⟨g, 0, none⟩)] w (GetKeyEnd w g h (getKeyS (some (a :: b :: c :: r)))) := by

  have hs : getKeyS (some (a :: b :: c :: r)) = (Ky.zero, 4, none) := by
    unfold getKeyS
    dsimp only
    rw [if_pos h2, if_pos hrow]
  rw [hs]
  clear hs
  have hrw : rowS (some r) = ([], 4, none) := rowS_no hrow
  have HRW := Lib.hid hrw
  clear hrw hrow
  have hgw := r0.lt
  have hr0 := r0.below ((Below.refl _ _).alloc (Nat.le_refl _) (.cells #[.int .i64 0, .int .u8 0, .string ⟨#[]⟩, .int .i64 0] 39))
  have hz0 := Blk.new w 39 #[.int .i64 0, .int .u8 0, .string ⟨#[]⟩, .int .i64 0]
  have H0 := Lib.hid (And.intro hr0 (And.intro hz0 hh))
  clear r0 hr0 hz0 hh
  have t1 : takeS (some (a :: b :: c :: r)) 2 = (a.toNat + 256 * b.toNat, 0, some (c :: r)) := by simp [takeS, leval]
  have t2 : takeS (some (c :: r)) 1 = (c.toNat, 0, some r) := by simp [takeS, leval]
  have l1 := a.toNat_lt
  have l2 := b.toNat_lt
  have l3 := c.toNat_lt
  obtain ⟨n1, hn1⟩ : ∃ n1, a.toNat + 256 * b.toNat = n1 := ⟨_, rfl⟩
  obtain ⟨n2, hn2⟩ : ∃ n2, c.toNat = n2 := ⟨_, rfl⟩
  rw [hn1] at t1
  try rw [hn1]
  rw [hn2] at t2 l3
  have hn : n1 < 65536 := by omega
  have hi2 : IntKind.u8.wrap (n2 : Int) = (n2 : Int) := by rw [IntKind.wrap_u8]; omega
  have HT := Lib.hid (And.intro t1 (And.intro t2 (And.intro hn1 hn2)))
  clear t1 t2 hn1 l1 l2
  go_enter Try.func48, Try.ntmps48
  go_wp2_with fail
  refine (take_any (s := 2) H0.out.1 (.inr (.inl rfl))).mono ?_
  rintro e w1 ⟨rfl, hr1, hg1⟩
  rw [HT.out.1] at hr1 ⊢
  dsimp only at hr1 ⊢
  have hz1 := H0.out.2.1.grown hg1 (fun e => by injection e with e; omega)
  have H1 := Lib.hid (And.intro hr1 (And.intro hz1 hg1))
  clear hr1 hz1 hg1
  go_wp2_with fail
  refine (take_any (s := 1) H1.out.1 (.inl rfl)).mono ?_
  rintro e w2 ⟨rfl, hr2, hg2⟩
  rw [HT.out.2.1] at hr2 ⊢
  dsimp only at hr2 ⊢
  have hz2 := H1.out.2.1.grown hg2 (fun e => by injection e with e; omega)
  have hlt2 : w.heap.size < w2.heap.size := hz2.lt
  have hgg := grown_trans (grown_from_alloc H1.out.2.2) hg2
  have H2 := Lib.hid (And.intro hr2 (And.intro hz2 hgg))
  clear hr2 hz2 hg2 hgg
  have q2 : ((n2 : Int) == 2) = true := by rw [show n2 = 2 from by rw [← hn2, h2]; rfl]; rfl
  clear h2 hn2
  have hE1 := rd_alloc H2.out.1 (.cells #[.int .i64 (n1 : Int), .int .u8 (n2 : Int), .string ⟨#[]⟩, .int .i64 0] 39)
  have hE2 := H2.out.2.1.alloc (.cells #[.int .i64 (n1 : Int), .int .u8 (n2 : Int), .string ⟨#[]⟩, .int .i64 0] 39)
  have hE3 := Blk.new w2 39 #[.int .i64 (n1 : Int), .int .u8 (n2 : Int), .string ⟨#[]⟩, .int .i64 0]
  have hE4 := grown_alloc H2.out.2.2 (.cells #[.int .i64 (n1 : Int), .int .u8 (n2 : Int), .string ⟨#[]⟩, .int .i64 0] 39)
  have HC := Lib.hid (And.intro hE1 (And.intro hE2 (And.intro hE3 hE4)))
  clear hE1 hE2 hE3 hE4
  go_wp2_with fail
  refine (row_any HC.out.1).mono ?_
  rintro e w3 ⟨v3, rfl, ho3, hr3, hg3⟩
  rw [HRW.out] at hr3 ho3 ⊢
  dsimp only at hr3 ho3 ⊢
  obtain ⟨A3, d3, rfl, hrv3, _, hm3, _⟩ := ho3.slice
  have hconv := conv_bytes (P := Try.prog) w3 28 9 5 A3 d3 [] Try.underlying28 Try.underlying5 Try.underlying9 hrv3
  clear hrv3 ho3
  have hK3 := HC.out.2.2.1.grown hg3 (fun e => by injection e with e; have := H2.out.2.2.size; omega)
  have hZ3 := HC.out.2.1.grown hg3 (fun e => by injection e with e; omega)
  have hg4 := grown_trans HC.out.2.2.2 hg3
  have hltK := hK3.lt
  simp only [List.length_nil] at hconv
  have f0 := hZ3.frozen 0
  have z0 := hZ3.cell 0
  have j0 := hK3.frozen 0
  have m0 := hK3.cell 0
  have f1 := hZ3.frozen 1
  have z1 := hZ3.cell 1
  have j1 := hK3.frozen 1
  have m1 := hK3.cell 1
  have f2 := hZ3.frozen 2
  have z2 := hZ3.cell 2
  have j2 := hK3.frozen 2
  have m2 := hK3.cell 2
  have f3 := hZ3.frozen 3
  have z3 := hZ3.cell 3
  have j3 := hK3.frozen 3
  have m3 := hK3.cell 3
  simp at z0 z1 z2 z3 m0 m1 m2 m3
  have H3 := Lib.hid (And.intro hr3 (And.intro hZ3 (And.intro hK3 hg4)))
  clear hr3 hZ3 hK3 hg4 hg3
  have hneq : w2.heap.size ≠ w.heap.size := by omega
  go_wp2_with fail
  refine post_cell2 Try.results48 Try.underlying39 rfl _ rfl ((H3.out.2.1.far (p := ⟨w2.heap.size, 2, none⟩) hneq.symm _).set4 _ _ _ _) (by kernel_rfl) ?_
  exact ⟨rfl, rd_set4 (rd_far1 H3.out.1 (by omega) (fun k hk => by have := H0.out.2.2 k hk; omega) _) (by omega) (fun k hk => Nat.ne_of_lt (H0.out.2.2 k hk)) _ _ _ _, grown_set4 (grown_new_set H3.out.2.2.2 (by omega) _) (Nat.le_refl _) _ _ _ _⟩

set_option maxRecDepth 100000 in
set_option maxHeartbeats 2000000 in
theorem getKey_row_ok {w : World} {g : Nat} {h : Option Nat} {a b c : UInt8} {r : List UInt8} (r0 : Rd w g h (some (a :: b :: c :: r))) (hh : ∀ k, h = some k → k < w.heap.size) (h2 : c = 2) (hrow : (rowS (some r)).2.1 = 0) :
    Calls Try.prog 48 #[.pointer (some ⟨g, 0, none⟩)] w (GetKeyEnd w g h (getKeyS (some (a :: b :: c :: r)))) := by

  have hs : getKeyS (some (a :: b :: c :: r)) = finK ⟨((a.toNat + 256 * b.toNat : Nat) : Int), c, ⟨(rowS (some r)).1.toArray⟩, 0⟩ (rowS (some r)).2.2 := by
    unfold getKeyS
    dsimp only
    rw [if_pos h2, if_neg (fun h => h hrow)]
  rw [hs]
  clear hs
  obtain ⟨nm, hnm⟩ : ∃ nm, (rowS (some r)).1 = nm := ⟨_, rfl⟩
  obtain ⟨st, hst⟩ : ∃ st, (rowS (some r)).2.2 = st := ⟨_, rfl⟩
  have hrw : rowS (some r) = (nm, 0, st) := by rw [← hnm, ← hst, ← hrow]
  have hl255 := rowS_len r
  rw [hnm] at hl255
  rw [hnm, hst]
  have HRW := Lib.hid hrw
  have HLN := Lib.hid (show (⟨nm.toArray⟩ : ByteArray).size ≤ maxLen by
    have : (⟨nm.toArray⟩ : ByteArray).size = nm.length := by simp [ByteArray.size]
    rw [this]
    unfold maxLen
    omega)
  clear hrw hrow hnm hst hl255
  have hgw := r0.lt
  have hr0 := r0.below ((Below.refl _ _).alloc (Nat.le_refl _) (.cells #[.int .i64 0, .int .u8 0, .string ⟨#[]⟩, .int .i64 0] 39))
  have hz0 := Blk.new w 39 #[.int .i64 0, .int .u8 0, .string ⟨#[]⟩, .int .i64 0]
  have H0 := Lib.hid (And.intro hr0 (And.intro hz0 hh))
  clear r0 hr0 hz0 hh
  have t1 : takeS (some (a :: b :: c :: r)) 2 = (a.toNat + 256 * b.toNat, 0, some (c :: r)) := by simp [takeS, leval]
  have t2 : takeS (some (c :: r)) 1 = (c.toNat, 0, some r) := by simp [takeS, leval]
  have l1 := a.toNat_lt
  have l2 := b.toNat_lt
  have l3 := c.toNat_lt
  obtain ⟨n1, hn1⟩ : ∃ n1, a.toNat + 256 * b.toNat = n1 := ⟨_, rfl⟩
  obtain ⟨n2, hn2⟩ : ∃ n2, c.toNat = n2 := ⟨_, rfl⟩
  rw [hn1] at t1
  try rw [hn1]
  rw [hn2] at t2 l3
  have hn : n1 < 65536 := by omega
  have hi2 : IntKind.u8.wrap (n2 : Int) = (n2 : Int) := by rw [IntKind.wrap_u8]; omega
  have HT := Lib.hid (And.intro t1 (And.intro t2 (And.intro hn1 hn2)))
  clear t1 t2 hn1 l1 l2
  go_enter Try.func48, Try.ntmps48
  go_wp2_with fail
  refine (take_any (s := 2) H0.out.1 (.inr (.inl rfl))).mono ?_
  rintro e w1 ⟨rfl, hr1, hg1⟩
  rw [HT.out.1] at hr1 ⊢
  dsimp only at hr1 ⊢
  have hz1 := H0.out.2.1.grown hg1 (fun e => by injection e with e; omega)
  have H1 := Lib.hid (And.intro hr1 (And.intro hz1 hg1))
  clear hr1 hz1 hg1
  go_wp2_with fail
  refine (take_any (s := 1) H1.out.1 (.inl rfl)).mono ?_
  rintro e w2 ⟨rfl, hr2, hg2⟩
  rw [HT.out.2.1] at hr2 ⊢
  dsimp only at hr2 ⊢
  have hz2 := H1.out.2.1.grown hg2 (fun e => by injection e with e; omega)
  have hlt2 : w.heap.size < w2.heap.size := hz2.lt
  have hgg := grown_trans (grown_from_alloc H1.out.2.2) hg2
  have H2 := Lib.hid (And.intro hr2 (And.intro hz2 hgg))
  clear hr2 hz2 hg2 hgg
  have q2 : ((n2 : Int) == 2) = true := by rw [show n2 = 2 from by rw [← hn2, h2]; rfl]; rfl
  clear h2 hn2
  have hE1 := rd_alloc H2.out.1 (.cells #[.int .i64 (n1 : Int), .int .u8 (n2 : Int), .string ⟨#[]⟩, .int .i64 0] 39)
  have hE2 := H2.out.2.1.alloc (.cells #[.int .i64 (n1 : Int), .int .u8 (n2 : Int), .string ⟨#[]⟩, .int .i64 0] 39)
  have hE3 := Blk.new w2 39 #[.int .i64 (n1 : Int), .int .u8 (n2 : Int), .string ⟨#[]⟩, .int .i64 0]
  have hE4 := grown_alloc H2.out.2.2 (.cells #[.int .i64 (n1 : Int), .int .u8 (n2 : Int), .string ⟨#[]⟩, .int .i64 0] 39)
  have HC := Lib.hid (And.intro hE1 (And.intro hE2 (And.intro hE3 hE4)))
  clear hE1 hE2 hE3 hE4
  go_wp2_with fail
  refine (row_any HC.out.1).mono ?_
  rintro e w3 ⟨v3, rfl, ho3, hr3, hg3⟩
  rw [HRW.out] at hr3 ho3 ⊢
  dsimp only at hr3 ho3 ⊢
  obtain ⟨A3, d3, rfl, hrv3, _, hm3, _⟩ := ho3.slice
  have hconv := conv_bytes (P := Try.prog) w3 28 9 5 A3 d3 nm Try.underlying28 Try.underlying5 Try.underlying9 hrv3
  clear hrv3 ho3
  have hK3 := HC.out.2.2.1.grown hg3 (fun e => by injection e with e; have := H2.out.2.2.size; omega)
  have hZ3 := HC.out.2.1.grown hg3 (fun e => by injection e with e; omega)
  have hg4 := grown_trans HC.out.2.2.2 hg3
  have hltK := hK3.lt
  have f0 := hZ3.frozen 0
  have z0 := hZ3.cell 0
  have j0 := hK3.frozen 0
  have m0 := hK3.cell 0
  have f1 := hZ3.frozen 1
  have z1 := hZ3.cell 1
  have j1 := hK3.frozen 1
  have m1 := hK3.cell 1
  have f2 := hZ3.frozen 2
  have z2 := hZ3.cell 2
  have j2 := hK3.frozen 2
  have m2 := hK3.cell 2
  have f3 := hZ3.frozen 3
  have z3 := hZ3.cell 3
  have j3 := hK3.frozen 3
  have m3 := hK3.cell 3
  simp at z0 z1 z2 z3 m0 m1 m2 m3
  have H3 := Lib.hid (And.intro hr3 (And.intro hZ3 (And.intro hK3 hg4)))
  clear hr3 hZ3 hK3 hg4 hg3
  have hneq : w2.heap.size ≠ w.heap.size := by omega
  clear hm3
  generalize (⟨nm.toArray⟩ : ByteArray) = s at *
  go_wp2_with fail
  have hE1 := rd_far1 (i := 2) H3.out.1 (L := w2.heap.size) (by omega) (fun k hk => by have := H0.out.2.2 k hk; omega) (.string s)
  have hE2 := H3.out.2.1.far (p := ⟨w2.heap.size, 2, none⟩) hneq.symm (.string s)
  have hE3 : Blk (w3.setCell ⟨w2.heap.size, 2, none⟩ (.string s)) w2.heap.size 39 #[.int .i64 (n1 : Int), .int .u8 (n2 : Int), .string s, .int .i64 0] := by
    have := H3.out.2.2.1.set_ 2 (.string s)
    simpa using this
  have hE4 := grown_new_set (R := w2.heap.size) (i := 2) H3.out.2.2.2 (by omega) (.string s)
  have HE := Lib.hid (And.intro hE1 (And.intro hE2 (And.intro hE3 hE4)))
  clear hE1 hE2 hE3 hE4
  have hcn : (n2 : Int) = (c.toNat : Int) := by rw [HT.out.2.2.2]
  rw [hcn] at HE
  rw [hcn]
  refine (mayK_any _ ⟨(n1 : Int), c, s, 0⟩ HLN.out).mono ?_
  rintro e w9 ⟨rfl, hb9⟩
  have hZ9 := HE.out.2.1.below hb9 HE.out.2.1.lt
  have hK9 := HE.out.2.2.1.below hb9 HE.out.2.2.1.lt
  have hr9 := HE.out.1.below hb9
  have hg9 := grown_trans HE.out.2.2.2 (grown_of_below hb9 _)
  have f0 := hZ9.frozen 0
  have f1 := hZ9.frozen 1
  have f2 := hZ9.frozen 2
  have f3 := hZ9.frozen 3
  have z0 := hZ9.cell 0
  have z1 := hZ9.cell 1
  have z2 := hZ9.cell 2
  have z3 := hZ9.cell 3
  have m0 := hK9.cell 0
  have m1 := hK9.cell 1
  have m2 := hK9.cell 2
  have m3 := hK9.cell 3
  simp at z0 z1 z2 z3 m0 m1 m2 m3
  have H9 := Lib.hid (And.intro hr9 (And.intro hZ9 hg9))
  clear hr9 hZ9 hg9 hK9 hb9
  by_cases hm : mayK ⟨(n1 : Int), c, s, 0⟩
  · have hfin : finK ⟨(n1 : Int), c, s, 0⟩ st = (⟨(n1 : Int), c, s, 0⟩, 0, st) := if_pos hm
    rw [decide_eq_true hm]
    have HF := Lib.hid hfin
    clear hm hfin
    go_wp2_with fail
    refine post_cell2 Try.results48 Try.underlying39 rfl _ rfl (H9.out.2.1.set4 _ _ _ _) (by kernel_rfl) ?_
    rw [HF.out]
    exact ⟨rfl, rd_set4 H9.out.1 (by omega) (fun k hk => Nat.ne_of_lt (H0.out.2.2 k hk)) _ _ _ _, grown_set4 H9.out.2.2 (Nat.le_refl _) _ _ _ _⟩
  · have hfin : finK ⟨(n1 : Int), c, s, 0⟩ st = (Ky.zero, 5, st) := if_neg hm
    rw [decide_eq_false hm]
    have HF := Lib.hid hfin
    clear hm hfin
    go_wp2_with fail
    refine post_cell2 Try.results48 Try.underlying39 rfl _ rfl (H9.out.2.1.set4 _ _ _ _) (by kernel_rfl) ?_
    rw [HF.out]
    exact ⟨rfl, rd_set4 H9.out.1 (by omega) (fun k hk => Nat.ne_of_lt (H0.out.2.2 k hk)) _ _ _ _, grown_set4 H9.out.2.2 (Nat.le_refl _) _ _ _ _⟩


theorem getKey_any {w : World} {g : Nat} {h : Option Nat} {st : Option (List UInt8)} (r : Rd w g h st) (hh : ∀ k, h = some k → k < w.heap.size) :
    Calls Try.prog 48 #[.pointer (some ⟨g, 0, none⟩)] w (GetKeyEnd w g h (getKeyS st)) := by
  match st, r with
  | none, r => exact getKey_short r hh (fun _ _ _ _ h => by cases h)
  | some [], r => exact getKey_short r hh (fun _ _ _ _ h => by cases h)
  | some [_], r => exact getKey_short r hh (fun _ _ _ _ h => by cases h)
  | some [_, _], r => exact getKey_short r hh (fun _ _ _ _ h => by cases h)
  | some (a :: b :: c :: l), r =>
    by_cases h2 : c = 2
    · by_cases hrow : (rowS (some l)).2.1 = 0
      · exact getKey_row_ok r hh h2 hrow
      · exact getKey_row_no r hh h2 hrow
    · by_cases h3 : c = 3
      · match l, r with
        | [], r => exact getKey_piece_no r hh h3 rfl
        | d :: l', r => exact getKey_piece_ok r hh h3
      · exact getKey_node r hh h2 h3

end Go.Proofs.Ytckpgbkabbddnaa
