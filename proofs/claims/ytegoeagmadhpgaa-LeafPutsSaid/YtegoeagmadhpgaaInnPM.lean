import Derived.Deep.RegionHeld3
import Derived.Lib.SliceRun
import Derived.Test.YtegoeagmadhpgaaMU
import Derived.Test.YtegoeagmadhpgaaLeafRM
import Derived.Test.YtegoeagmadhpgaaKeyPM
import Derived.Test.YtegoeagmadhpgaaMApp
import Derived.Test.YtegoeagmadhpgaaSealPM
import Derived.Test.YtegoeagmadhpgaaClsM
import Derived.Test.YtegoeagmadhpgaaKeyCM
set_option linter.unusedVariables false
set_option linter.unusedSimpArgs false
/- Layer 15, the program's PutInner: contract. -/
namespace Go.Proofs.Ytegoeagmadhpgaa
open Go.RowKit

/-- A child's copy, what was before the call. -/
def CG (w w' : World) (g : Nat) (c : Chd) : Prop := Blk w' g 73 #[.int .i64 c.key.ino, .int .u8 (c.key.what.toNat : Int), .string c.key.name, .int .i64 c.key.chunk, .int .i64 c.block, .int .i64 c.page] ∧ Below w.heap.size w w'
theorem CG.step {w w1 w2 : World} {g : Nat} {c : Chd} (h : CG w w1 g c) (hb : Below w1.heap.size w1 w2) : CG w w2 g c := ⟨h.1.below hb h.1.lt, below_then h.2 h.2.size hb⟩
theorem CG.cells {w w1 : World} {g : Nat} {c : Chd} (h : CG w w1 g c) : w1.cell? ⟨g, 0, none⟩ = some (.int .i64 c.key.ino) ∧ w1.cell? ⟨g, 1, none⟩ = some (.int .u8 (c.key.what.toNat : Int)) ∧ w1.cell? ⟨g, 2, none⟩ = some (.string c.key.name) ∧ w1.cell? ⟨g, 3, none⟩ = some (.int .i64 c.key.chunk) ∧ w1.cell? ⟨g, 4, none⟩ = some (.int .i64 c.block) ∧ w1.cell? ⟨g, 5, none⟩ = some (.int .i64 c.page) := by
  refine ⟨?_, ?_, ?_, ?_, ?_, ?_⟩ <;> rw [h.1.cell] <;> rfl
theorem CG.old {w w1 : World} {g : Nat} {c : Chd} (h : CG w w1 g c) {p : Addr} {u : Value} (hu : w.cell? p = some u) (hp : p.block < w.heap.size) : w1.cell? p = some u := (World.cell?_of_block (h.2.block _ hp)).trans hu

set_option maxRecDepth 100000 in
set_option maxHeartbeats 8000000 in
theorem putInner_any (w : World) (s : Int) (A : Option Addr) (n d : Nat) (l : List Chd) (h : ChdsIn w A n l) (hn : n ≤ 140737488355328) :
    Calls Try.prog 23 #[.int .i64 s, .slice A n d] w (PutPageEnd w (putInnerS s l)) := by
  obtain ⟨r, hr⟩ : ∃ r, putInnerS s l = r := ⟨_, rfl⟩
  rw [hr]
  have H := Lib.hid (show ChdsIn w A n l ∧ l.length = n ∧ putInnerS s l = r from ⟨h, h.1, hr⟩)
  clear h hr
  have hbad : ¬ innOk l → r = ([], 2) := fun hb => by rw [← H.out.2.2]; exact if_neg hb
  have HBAD := Lib.hid hbad
  clear hbad
  rcases (show n < 1 ∨ (1 ≤ n ∧ n ≤ 255) ∨ (1 ≤ n ∧ 255 < n) by omega) with h0 | ⟨h1, h2⟩ | ⟨h1, h2⟩
  · have HF := Lib.hid (HBAD.out fun hb => by have := hb.1; have := H.out.2.1; omega)
    go_enter Try.func23, Try.ntmps23
    go_wp2_with fail
    go_ret2
    rw [HF.out]
    exact ⟨_, rfl, OwnB.nil _ _ _, Below.refl _ _⟩
  · have t2 : decide (255 < n) = false := decide_eq_false (by omega)
    have t3 : decide ((255 : Int) < (n : Int)) = false := decide_eq_false (by omega)
    go_enter Try.func23, Try.ntmps23
    go_wp2_with fail
    have hlit := own_lit1 w 5 n (by omega)
    have HL := Lib.hid (And.intro hlit ((Below.refl w.heap.size w).alloc (Nat.le_refl _) (.cells #[.int .u8 (n : Int)] 5)))
    clear hlit
    go_loopg [6, 25] n (fun k v i wr => ∃ j : Nat, j + k = n ∧ i = .int .i64 j ∧ OwnB 5 wr w.heap.size v (UInt8.ofNat n :: (l.take j).flatMap chdB) ∧ Below w.heap.size w wr ∧ (∀ f ∈ l.take j, fitC f) ∧ ∀ i f, i < j → l[i]? = some f → stepC l i f)
    case atStart => exact ⟨0, by omega, rfl, HL.out.1, HL.out.2, fun f hf => by simp at hf, fun i f h => by omega⟩
    case round =>
      obtain ⟨j, hj, rfl, ho, hb, hall, hord⟩ := hrel
      have HX := Lib.hid (And.intro hj (And.intro ho (And.intro hb (And.intro hall hord))))
      have hsz := hb.size
      clear hj ho hb hall hord
      by_cases hlt : j < n
      · obtain ⟨f, hf⟩ : ∃ f, l[j]? = some f := ⟨_, List.getElem?_eq_getElem (by have := H.out.2.1; omega)⟩
        obtain ⟨okf, ad, hA, hblk, x0, x1, x2, x3, x4, x5⟩ := ChdsIn.at_ H.out.1 hf
        subst hA
        have up : ∀ {p : Addr} {u : Value}, w.cell? p = some u → p.block < w.heap.size → wr.cell? p = some u := fun hu hp => (World.cell?_of_block (HX.out.2.2.1.block _ hp)).trans hu
        have p0 := up x0 hblk
        have p1 := up x1 hblk
        have p2 := up x2 hblk
        have p3 := up x3 hblk
        have p4 := up x4 hblk
        have p5 := up x5 hblk
        have hjn : (j : Int) < (n : Int) := by omega
        have HPK := fun w => putKey_any w f.key okf
        have hG : CG w (wr.alloc (.cells #[.int .i64 f.key.ino, .int .u8 (f.key.what.toNat : Int), .string f.key.name, .int .i64 f.key.chunk, .int .i64 f.block, .int .i64 f.page] 73)) wr.heap.size f := ⟨Blk.new _ _ _, HX.out.2.2.1.alloc HX.out.2.2.1.size _⟩
        have hownW := HX.out.2.1.below ((Below.refl _ _).alloc (Nat.le_refl _) (.cells #[.int .i64 f.key.ino, .int .u8 (f.key.what.toNat : Int), .string f.key.name, .int .i64 f.key.chunk, .int .i64 f.block, .int .i64 f.page] 73))
        have HM := Lib.hid (And.intro hG hownW)
        have HV := Lib.hid (And.intro hf okf)
        obtain ⟨m0, m1, m2, m3, m4, m5⟩ := hG.cells
        clear x0 x1 x2 x3 x4 x5 up hG hownW hf okf
        have hbadf : ¬ fitC f → r = ([], 2) := fun hb => HBAD.out fun ho => hb (ho.2.2.1 f (List.mem_of_getElem? HV.out.1))
        have hbado : ¬ stepC l j f → r = ([], 2) := fun hb => HBAD.out fun ho => hb ((chain_iff l).1 ho.2.2.2 j f HV.out.1)
        have HBF := Lib.hid (And.intro hbadf hbado)
        clear hbadf hbado
        have hbase := HX.out.2.2.1.size
        obtain ⟨⟨fi, fa, fs, fc⟩, fb, fp⟩ := f
        unfold Ky.val at HPK
        dsimp only at p0 p1 p2 p3 p4 p5 m0 m1 m2 m3 m4 m5 HPK HM HV HBF
        have hcase : (¬ mayK ⟨fi, fa, fs, fc⟩) ∨ (mayK ⟨fi, fa, fs, fc⟩ ∧ fb < 0) ∨ (mayK ⟨fi, fa, fs, fc⟩ ∧ 255 < fb) ∨ (mayK ⟨fi, fa, fs, fc⟩ ∧ 0 ≤ fb ∧ fb ≤ 255 ∧ fp < 0) ∨ (mayK ⟨fi, fa, fs, fc⟩ ∧ 0 ≤ fb ∧ fb ≤ 255 ∧ 255 < fp) ∨ (mayK ⟨fi, fa, fs, fc⟩ ∧ 0 ≤ fb ∧ fb ≤ 255 ∧ 0 ≤ fp ∧ fp ≤ 255 ∧ stepC l j ⟨⟨fi, fa, fs, fc⟩, fb, fp⟩) ∨ (mayK ⟨fi, fa, fs, fc⟩ ∧ 0 ≤ fb ∧ fb ≤ 255 ∧ 0 ≤ fp ∧ fp ≤ 255 ∧ ¬ stepC l j ⟨⟨fi, fa, fs, fc⟩, fb, fp⟩) := by
          by_cases hm : mayK ⟨fi, fa, fs, fc⟩
          · by_cases c1 : fb < 0
            · exact .inr (.inl ⟨hm, c1⟩)
            · by_cases c2 : 255 < fb
              · exact .inr (.inr (.inl ⟨hm, c2⟩))
              · by_cases c3 : fp < 0
                · exact .inr (.inr (.inr (.inl ⟨hm, by omega, by omega, c3⟩)))
                · by_cases c4 : 255 < fp
                  · exact .inr (.inr (.inr (.inr (.inl ⟨hm, by omega, by omega, c4⟩))))
                  · by_cases c5 : stepC l j ⟨⟨fi, fa, fs, fc⟩, fb, fp⟩
                    · exact .inr (.inr (.inr (.inr (.inr (.inl ⟨hm, by omega, by omega, by omega, by omega, c5⟩)))))
                    · exact .inr (.inr (.inr (.inr (.inr (.inr ⟨hm, by omega, by omega, by omega, by omega, c5⟩)))))
          · exact .inl hm
        rcases hcase with hm | ⟨hm, c1⟩ | ⟨hm, c1⟩ | ⟨hm, c1, c2, c3⟩ | ⟨hm, c1, c2, c3⟩ | ⟨hm, hl1, hl2, hl3, hl4, hos⟩ | ⟨hm, hl1, hl2, hl3, hl4, hos⟩
        · have hpk := HPK
          rw [show putKeyS ⟨fi, fa, fs, fc⟩ = ([], 2) from if_neg hm] at hpk
          have HP := Lib.hid hpk
          have HF := Lib.hid (HBF.out.1 fun h => hm h.1)
          clear hm hpk HPK
          go_wp2_with fail
          refine (HP.out _).mono ?_
          rintro e w2 ⟨v2, rfl, ho2, hb2⟩
          obtain ⟨A2, d2', rfl, hrv2, _, _, _⟩ := ho2.slice
          have H2 := Lib.hid (And.intro (HM.out.1.step hb2) (And.intro ho2 (And.intro (HM.out.2.below hb2) hrv2)))
          have hsg := hb2.size
          have hsw := H2.out.1.2.size
          clear ho2 hb2 hrv2 p0 p1 p2 p3 p4 p5 m0 m1 m2 m3 m4 m5
          dsimp only
          skip
          go_wp2_with fail
          generalize hg0 : wr.heap.size = g0 at *
          have HG0 := Lib.hid hg0
          clear hg0
          have m0 : ∀ p : InC (fun w' => Below w2.heap.size w2 w'), p.w.cell? ⟨g0, 0, none⟩ = some (.int .i64 fi) := fun p => (H2.out.1.step p.h).cells.1
          have m1 : ∀ p : InC (fun w' => Below w2.heap.size w2 w'), p.w.cell? ⟨g0, 1, none⟩ = some (.int .u8 (fa.toNat : Int)) := fun p => (H2.out.1.step p.h).cells.2.1
          have m2 : ∀ p : InC (fun w' => Below w2.heap.size w2 w'), p.w.cell? ⟨g0, 2, none⟩ = some (.string fs) := fun p => (H2.out.1.step p.h).cells.2.2.1
          have m3 : ∀ p : InC (fun w' => Below w2.heap.size w2 w'), p.w.cell? ⟨g0, 3, none⟩ = some (.int .i64 fc) := fun p => (H2.out.1.step p.h).cells.2.2.2.1
          have m4 : ∀ p : InC (fun w' => Below w2.heap.size w2 w'), p.w.cell? ⟨g0, 4, none⟩ = some (.int .i64 fb) := fun p => (H2.out.1.step p.h).cells.2.2.2.2.1
          have m5 : ∀ p : InC (fun w' => Below w2.heap.size w2 w'), p.w.cell? ⟨g0, 5, none⟩ = some (.int .i64 fp) := fun p => (H2.out.1.step p.h).cells.2.2.2.2.2
          have hinh : Nonempty (InC (fun w' => Below w2.heap.size w2 w')) := ⟨⟨w2, Below.refl _ _⟩⟩
          refine wp_region_class (fun w' => Below w2.heap.size w2 w') (by kernel_rfl) (by kernel_rfl) (Below.refl _ _).drew ?_
          repeat (go_big_quiet_step (fail))
          refine wpQuiet_nil ?_
          rintro _ ⟨p4', rfl⟩
          clear hinh m0 m1 m2 m3 m4 m5
          have hb4 := p4'.h
          have hs4 := hb4.size
          generalize p4'.w = w4 at hb4 hs4 ⊢
          have HM4 := Lib.hid (And.intro (H2.out.1.step hb4) hb4)
          clear hb4
          go_wp2_with fail
          go_ret2
          rw [HF.out]
          exact ⟨_, rfl, OwnB.nil _ _ _, HM4.out.1.2⟩
        · have hkb := (keyB_length hm).2
          have hpk := HPK
          rw [show putKeyS ⟨fi, fa, fs, fc⟩ = (keyB ⟨fi, fa, fs, fc⟩, 0) from if_pos hm] at hpk
          have HP := Lib.hid hpk
          clear hpk HPK
          have HF := Lib.hid (HBF.out.1 fun h => by have := h.2.1.1; dsimp only at this; omega)
          clear hm
          have t4 : decide (fb < 0) = true := decide_eq_true (by omega)
          go_wp2_with fail
          refine (HP.out _).mono ?_
          rintro e w2 ⟨v2, rfl, ho2, hb2⟩
          obtain ⟨A2, d2', rfl, hrv2, _, _, _⟩ := ho2.slice
          have H2 := Lib.hid (And.intro (HM.out.1.step hb2) (And.intro ho2 (And.intro (HM.out.2.below hb2) hrv2)))
          have hsg := hb2.size
          have hsw := H2.out.1.2.size
          clear ho2 hb2 hrv2 p0 p1 p2 p3 p4 p5 m0 m1 m2 m3 m4 m5
          dsimp only
          skip
          go_wp2_with fail
          generalize hg0 : wr.heap.size = g0 at *
          have HG0 := Lib.hid hg0
          clear hg0
          have m0 : ∀ p : InC (fun w' => Below w2.heap.size w2 w'), p.w.cell? ⟨g0, 0, none⟩ = some (.int .i64 fi) := fun p => (H2.out.1.step p.h).cells.1
          have m1 : ∀ p : InC (fun w' => Below w2.heap.size w2 w'), p.w.cell? ⟨g0, 1, none⟩ = some (.int .u8 (fa.toNat : Int)) := fun p => (H2.out.1.step p.h).cells.2.1
          have m2 : ∀ p : InC (fun w' => Below w2.heap.size w2 w'), p.w.cell? ⟨g0, 2, none⟩ = some (.string fs) := fun p => (H2.out.1.step p.h).cells.2.2.1
          have m3 : ∀ p : InC (fun w' => Below w2.heap.size w2 w'), p.w.cell? ⟨g0, 3, none⟩ = some (.int .i64 fc) := fun p => (H2.out.1.step p.h).cells.2.2.2.1
          have m4 : ∀ p : InC (fun w' => Below w2.heap.size w2 w'), p.w.cell? ⟨g0, 4, none⟩ = some (.int .i64 fb) := fun p => (H2.out.1.step p.h).cells.2.2.2.2.1
          have m5 : ∀ p : InC (fun w' => Below w2.heap.size w2 w'), p.w.cell? ⟨g0, 5, none⟩ = some (.int .i64 fp) := fun p => (H2.out.1.step p.h).cells.2.2.2.2.2
          have hinh : Nonempty (InC (fun w' => Below w2.heap.size w2 w')) := ⟨⟨w2, Below.refl _ _⟩⟩
          refine wp_region_class (fun w' => Below w2.heap.size w2 w') (by kernel_rfl) (by kernel_rfl) (Below.refl _ _).drew ?_
          repeat (go_big_quiet_step (fail))
          refine wpQuiet_nil ?_
          rintro _ ⟨p4', rfl⟩
          clear hinh m0 m1 m2 m3 m4 m5
          have hb4 := p4'.h
          have hs4 := hb4.size
          generalize p4'.w = w4 at hb4 hs4 ⊢
          have HM4 := Lib.hid (And.intro (H2.out.1.step hb4) hb4)
          clear hb4
          go_wp2_with fail
          go_ret2
          rw [HF.out]
          exact ⟨_, rfl, OwnB.nil _ _ _, HM4.out.1.2⟩
        · have hkb := (keyB_length hm).2
          have hpk := HPK
          rw [show putKeyS ⟨fi, fa, fs, fc⟩ = (keyB ⟨fi, fa, fs, fc⟩, 0) from if_pos hm] at hpk
          have HP := Lib.hid hpk
          clear hpk HPK
          have HF := Lib.hid (HBF.out.1 fun h => by have := h.2.1.2; dsimp only at this; omega)
          clear hm
          have t4 : decide (fb < 0) = false := decide_eq_false (by omega)
          have t5 : decide (255 < fb) = true := decide_eq_true (by omega)
          go_wp2_with fail
          refine (HP.out _).mono ?_
          rintro e w2 ⟨v2, rfl, ho2, hb2⟩
          obtain ⟨A2, d2', rfl, hrv2, _, _, _⟩ := ho2.slice
          have H2 := Lib.hid (And.intro (HM.out.1.step hb2) (And.intro ho2 (And.intro (HM.out.2.below hb2) hrv2)))
          have hsg := hb2.size
          have hsw := H2.out.1.2.size
          clear ho2 hb2 hrv2 p0 p1 p2 p3 p4 p5 m0 m1 m2 m3 m4 m5
          dsimp only
          skip
          go_wp2_with fail
          generalize hg0 : wr.heap.size = g0 at *
          have HG0 := Lib.hid hg0
          clear hg0
          have m0 : ∀ p : InC (fun w' => Below w2.heap.size w2 w'), p.w.cell? ⟨g0, 0, none⟩ = some (.int .i64 fi) := fun p => (H2.out.1.step p.h).cells.1
          have m1 : ∀ p : InC (fun w' => Below w2.heap.size w2 w'), p.w.cell? ⟨g0, 1, none⟩ = some (.int .u8 (fa.toNat : Int)) := fun p => (H2.out.1.step p.h).cells.2.1
          have m2 : ∀ p : InC (fun w' => Below w2.heap.size w2 w'), p.w.cell? ⟨g0, 2, none⟩ = some (.string fs) := fun p => (H2.out.1.step p.h).cells.2.2.1
          have m3 : ∀ p : InC (fun w' => Below w2.heap.size w2 w'), p.w.cell? ⟨g0, 3, none⟩ = some (.int .i64 fc) := fun p => (H2.out.1.step p.h).cells.2.2.2.1
          have m4 : ∀ p : InC (fun w' => Below w2.heap.size w2 w'), p.w.cell? ⟨g0, 4, none⟩ = some (.int .i64 fb) := fun p => (H2.out.1.step p.h).cells.2.2.2.2.1
          have m5 : ∀ p : InC (fun w' => Below w2.heap.size w2 w'), p.w.cell? ⟨g0, 5, none⟩ = some (.int .i64 fp) := fun p => (H2.out.1.step p.h).cells.2.2.2.2.2
          have hinh : Nonempty (InC (fun w' => Below w2.heap.size w2 w')) := ⟨⟨w2, Below.refl _ _⟩⟩
          refine wp_region_class (fun w' => Below w2.heap.size w2 w') (by kernel_rfl) (by kernel_rfl) (Below.refl _ _).drew ?_
          repeat (go_big_quiet_step (fail))
          refine wpQuiet_nil ?_
          rintro _ ⟨p4', rfl⟩
          clear hinh m0 m1 m2 m3 m4 m5
          have hb4 := p4'.h
          have hs4 := hb4.size
          generalize p4'.w = w4 at hb4 hs4 ⊢
          have HM4 := Lib.hid (And.intro (H2.out.1.step hb4) hb4)
          clear hb4
          go_wp2_with fail
          go_ret2
          rw [HF.out]
          exact ⟨_, rfl, OwnB.nil _ _ _, HM4.out.1.2⟩
        · have hkb := (keyB_length hm).2
          have hpk := HPK
          rw [show putKeyS ⟨fi, fa, fs, fc⟩ = (keyB ⟨fi, fa, fs, fc⟩, 0) from if_pos hm] at hpk
          have HP := Lib.hid hpk
          clear hpk HPK
          have HF := Lib.hid (HBF.out.1 fun h => by have := h.2.2.1; dsimp only at this; omega)
          clear hm
          have t4 : decide (fb < 0) = false := decide_eq_false (by omega)
          have t5 : decide (255 < fb) = false := decide_eq_false (by omega)
          have t6 : decide (fp < 0) = true := decide_eq_true (by omega)
          go_wp2_with fail
          refine (HP.out _).mono ?_
          rintro e w2 ⟨v2, rfl, ho2, hb2⟩
          obtain ⟨A2, d2', rfl, hrv2, _, _, _⟩ := ho2.slice
          have H2 := Lib.hid (And.intro (HM.out.1.step hb2) (And.intro ho2 (And.intro (HM.out.2.below hb2) hrv2)))
          have hsg := hb2.size
          have hsw := H2.out.1.2.size
          clear ho2 hb2 hrv2 p0 p1 p2 p3 p4 p5 m0 m1 m2 m3 m4 m5
          dsimp only
          skip
          go_wp2_with fail
          generalize hg0 : wr.heap.size = g0 at *
          have HG0 := Lib.hid hg0
          clear hg0
          have m0 : ∀ p : InC (fun w' => Below w2.heap.size w2 w'), p.w.cell? ⟨g0, 0, none⟩ = some (.int .i64 fi) := fun p => (H2.out.1.step p.h).cells.1
          have m1 : ∀ p : InC (fun w' => Below w2.heap.size w2 w'), p.w.cell? ⟨g0, 1, none⟩ = some (.int .u8 (fa.toNat : Int)) := fun p => (H2.out.1.step p.h).cells.2.1
          have m2 : ∀ p : InC (fun w' => Below w2.heap.size w2 w'), p.w.cell? ⟨g0, 2, none⟩ = some (.string fs) := fun p => (H2.out.1.step p.h).cells.2.2.1
          have m3 : ∀ p : InC (fun w' => Below w2.heap.size w2 w'), p.w.cell? ⟨g0, 3, none⟩ = some (.int .i64 fc) := fun p => (H2.out.1.step p.h).cells.2.2.2.1
          have m4 : ∀ p : InC (fun w' => Below w2.heap.size w2 w'), p.w.cell? ⟨g0, 4, none⟩ = some (.int .i64 fb) := fun p => (H2.out.1.step p.h).cells.2.2.2.2.1
          have m5 : ∀ p : InC (fun w' => Below w2.heap.size w2 w'), p.w.cell? ⟨g0, 5, none⟩ = some (.int .i64 fp) := fun p => (H2.out.1.step p.h).cells.2.2.2.2.2
          have hinh : Nonempty (InC (fun w' => Below w2.heap.size w2 w')) := ⟨⟨w2, Below.refl _ _⟩⟩
          refine wp_region_class (fun w' => Below w2.heap.size w2 w') (by kernel_rfl) (by kernel_rfl) (Below.refl _ _).drew ?_
          repeat (go_big_quiet_step (fail))
          refine wpQuiet_nil ?_
          rintro _ ⟨p4', rfl⟩
          clear hinh m0 m1 m2 m3 m4 m5
          have hb4 := p4'.h
          have hs4 := hb4.size
          generalize p4'.w = w4 at hb4 hs4 ⊢
          have HM4 := Lib.hid (And.intro (H2.out.1.step hb4) hb4)
          clear hb4
          go_wp2_with fail
          go_ret2
          rw [HF.out]
          exact ⟨_, rfl, OwnB.nil _ _ _, HM4.out.1.2⟩
        · have hkb := (keyB_length hm).2
          have hpk := HPK
          rw [show putKeyS ⟨fi, fa, fs, fc⟩ = (keyB ⟨fi, fa, fs, fc⟩, 0) from if_pos hm] at hpk
          have HP := Lib.hid hpk
          clear hpk HPK
          have HF := Lib.hid (HBF.out.1 fun h => by have := h.2.2.2; dsimp only at this; omega)
          clear hm
          have t4 : decide (fb < 0) = false := decide_eq_false (by omega)
          have t5 : decide (255 < fb) = false := decide_eq_false (by omega)
          have t6 : decide (fp < 0) = false := decide_eq_false (by omega)
          have t7 : decide (255 < fp) = true := decide_eq_true (by omega)
          go_wp2_with fail
          refine (HP.out _).mono ?_
          rintro e w2 ⟨v2, rfl, ho2, hb2⟩
          obtain ⟨A2, d2', rfl, hrv2, _, _, _⟩ := ho2.slice
          have H2 := Lib.hid (And.intro (HM.out.1.step hb2) (And.intro ho2 (And.intro (HM.out.2.below hb2) hrv2)))
          have hsg := hb2.size
          have hsw := H2.out.1.2.size
          clear ho2 hb2 hrv2 p0 p1 p2 p3 p4 p5 m0 m1 m2 m3 m4 m5
          dsimp only
          skip
          go_wp2_with fail
          generalize hg0 : wr.heap.size = g0 at *
          have HG0 := Lib.hid hg0
          clear hg0
          have m0 : ∀ p : InC (fun w' => Below w2.heap.size w2 w'), p.w.cell? ⟨g0, 0, none⟩ = some (.int .i64 fi) := fun p => (H2.out.1.step p.h).cells.1
          have m1 : ∀ p : InC (fun w' => Below w2.heap.size w2 w'), p.w.cell? ⟨g0, 1, none⟩ = some (.int .u8 (fa.toNat : Int)) := fun p => (H2.out.1.step p.h).cells.2.1
          have m2 : ∀ p : InC (fun w' => Below w2.heap.size w2 w'), p.w.cell? ⟨g0, 2, none⟩ = some (.string fs) := fun p => (H2.out.1.step p.h).cells.2.2.1
          have m3 : ∀ p : InC (fun w' => Below w2.heap.size w2 w'), p.w.cell? ⟨g0, 3, none⟩ = some (.int .i64 fc) := fun p => (H2.out.1.step p.h).cells.2.2.2.1
          have m4 : ∀ p : InC (fun w' => Below w2.heap.size w2 w'), p.w.cell? ⟨g0, 4, none⟩ = some (.int .i64 fb) := fun p => (H2.out.1.step p.h).cells.2.2.2.2.1
          have m5 : ∀ p : InC (fun w' => Below w2.heap.size w2 w'), p.w.cell? ⟨g0, 5, none⟩ = some (.int .i64 fp) := fun p => (H2.out.1.step p.h).cells.2.2.2.2.2
          have hinh : Nonempty (InC (fun w' => Below w2.heap.size w2 w')) := ⟨⟨w2, Below.refl _ _⟩⟩
          refine wp_region_class (fun w' => Below w2.heap.size w2 w') (by kernel_rfl) (by kernel_rfl) (Below.refl _ _).drew ?_
          repeat (go_big_quiet_step (fail))
          refine wpQuiet_nil ?_
          rintro _ ⟨p4', rfl⟩
          clear hinh m0 m1 m2 m3 m4 m5
          have hb4 := p4'.h
          have hs4 := hb4.size
          generalize p4'.w = w4 at hb4 hs4 ⊢
          have HM4 := Lib.hid (And.intro (H2.out.1.step hb4) hb4)
          clear hb4
          go_wp2_with fail
          go_ret2
          rw [HF.out]
          exact ⟨_, rfl, OwnB.nil _ _ _, HM4.out.1.2⟩
        · rcases Nat.eq_zero_or_pos j with hj0 | hj0
          · have hkb := (keyB_length hm).2
            have hpk := HPK
            rw [show putKeyS ⟨fi, fa, fs, fc⟩ = (keyB ⟨fi, fa, fs, fc⟩, 0) from if_pos hm] at hpk
            have HP := Lib.hid hpk
            clear hpk HPK
            have t4 : decide (fb < 0) = false := decide_eq_false (by omega)
            have t5 : decide (255 < fb) = false := decide_eq_false (by omega)
            have t6 : decide (fp < 0) = false := decide_eq_false (by omega)
            have t7 : decide (255 < fp) = false := decide_eq_false (by omega)
            have q3 : decide (0 < (j : Int)) = false := decide_eq_false (by omega)
            have q4 : decide (0 < j) = false := decide_eq_false (by omega)
            have hos : stepC l j ⟨⟨fi, fa, fs, fc⟩, fb, fp⟩ := fun p h => by omega
            have HJ := Lib.hid hj0
            clear hj0
            have hfit : fitC ⟨⟨fi, fa, fs, fc⟩, fb, fp⟩ := ⟨hm, ⟨hl1, hl2⟩, hl3, hl4⟩
            have hle := flat_chd_le (l.take j) HX.out.2.2.2.1
            rw [List.length_take] at hle
            have hxl : (UInt8.ofNat n :: (l.take j).flatMap chdB).length ≤ 70000 := by rw [List.length_cons]; omega
            have hft : UInt8.ofNat n :: (l.take (j + 1)).flatMap chdB = (UInt8.ofNat n :: (l.take j).flatMap chdB) ++ chdB ⟨⟨fi, fa, fs, fc⟩, fb, fp⟩ := by
              rw [List.take_add_one, HV.out.1, List.flatMap_append]
              simp
            have hal : ∀ x ∈ l.take (j + 1), fitC x := by
              intro x hx
              rw [List.take_add_one, HV.out.1] at hx
              rcases List.mem_append.1 hx with hx | hx
              · exact HX.out.2.2.2.1 x hx
              · simp at hx
                rw [hx]
                exact hfit
            have hor : ∀ i f, i < j + 1 → l[i]? = some f → stepC l i f := by
              intro i f hi hf
              rcases Nat.lt_or_ge i j with h | h
              · exact HX.out.2.2.2.2 i f h hf
              · obtain rfl : i = j := by omega
                rw [HV.out.1] at hf
                cases hf
                exact hos
            have hown := HM.out.2
            generalize UInt8.ofNat n :: (l.take j).flatMap chdB = Y at hxl hft hown
            generalize hkb' : keyB ⟨fi, fa, fs, fc⟩ = kb at HP hkb
            obtain ⟨qk, hqk⟩ : ∃ q, kb.length = q := ⟨_, rfl⟩
            rw [hqk] at hkb
            have HN := Lib.hid (And.intro hft (And.intro hal (And.intro hor (And.intro hown (And.intro hkb' hqk)))))
            have hLb : chdB ⟨⟨fi, fa, fs, fc⟩, fb, fp⟩ = kb ++ [UInt8.ofNat fb.toNat, UInt8.ofNat fp.toNat] := by
              show keyB ⟨fi, fa, fs, fc⟩ ++ _ = _
              rw [hkb']
            have HLB := Lib.hid (And.intro hLb (And.intro (byte_back ⟨hl1, hl2⟩) (byte_back ⟨hl3, hl4⟩)))
            have hw1 : IntKind.u8.wrap fb = fb := IntWalk.u8_in _ ⟨hl1, hl2⟩
            have hw2 : IntKind.u8.wrap fp = fp := IntWalk.u8_in _ ⟨hl3, hl4⟩
            clear hm hfit hle hft hal hor hown hkb' hqk hLb hos
            go_wp2_with fail
            refine (HP.out _).mono ?_
            rintro e w2 ⟨v2, rfl, ho2, hb2⟩
            obtain ⟨A2, d2', rfl, hrv2, _, _, _⟩ := ho2.slice
            have H2 := Lib.hid (And.intro (HM.out.1.step hb2) (And.intro ho2 (And.intro (HN.out.2.2.2.1.below hb2) hrv2)))
            have hsg := hb2.size
            have hsw := H2.out.1.2.size
            clear ho2 hb2 hrv2 p0 p1 p2 p3 p4 p5 m0 m1 m2 m3 m4 m5
            dsimp only
            rw [HN.out.2.2.2.2.2]
            go_wp2_with fail
            generalize hg0 : wr.heap.size = g0 at *
            have HG0 := Lib.hid hg0
            clear hg0
            have m0 : ∀ p : InC (fun w' => Below w2.heap.size w2 w'), p.w.cell? ⟨g0, 0, none⟩ = some (.int .i64 fi) := fun p => (H2.out.1.step p.h).cells.1
            have m1 : ∀ p : InC (fun w' => Below w2.heap.size w2 w'), p.w.cell? ⟨g0, 1, none⟩ = some (.int .u8 (fa.toNat : Int)) := fun p => (H2.out.1.step p.h).cells.2.1
            have m2 : ∀ p : InC (fun w' => Below w2.heap.size w2 w'), p.w.cell? ⟨g0, 2, none⟩ = some (.string fs) := fun p => (H2.out.1.step p.h).cells.2.2.1
            have m3 : ∀ p : InC (fun w' => Below w2.heap.size w2 w'), p.w.cell? ⟨g0, 3, none⟩ = some (.int .i64 fc) := fun p => (H2.out.1.step p.h).cells.2.2.2.1
            have m4 : ∀ p : InC (fun w' => Below w2.heap.size w2 w'), p.w.cell? ⟨g0, 4, none⟩ = some (.int .i64 fb) := fun p => (H2.out.1.step p.h).cells.2.2.2.2.1
            have m5 : ∀ p : InC (fun w' => Below w2.heap.size w2 w'), p.w.cell? ⟨g0, 5, none⟩ = some (.int .i64 fp) := fun p => (H2.out.1.step p.h).cells.2.2.2.2.2
            have hinh : Nonempty (InC (fun w' => Below w2.heap.size w2 w')) := ⟨⟨w2, Below.refl _ _⟩⟩
            refine wp_region_class (fun w' => Below w2.heap.size w2 w') (by kernel_rfl) (by kernel_rfl) (Below.refl _ _).drew ?_
            repeat (go_big_quiet_step (fail))
            refine wpQuiet_nil ?_
            rintro _ ⟨p4', rfl⟩
            clear hinh m0 m1 m2 m3 m4 m5
            have hb4 := p4'.h
            have hs4 := hb4.size
            generalize p4'.w = w4 at hb4 hs4 ⊢
            have HM4 := Lib.hid (And.intro (H2.out.1.step hb4) hb4)
            clear hb4
            have d4 : w4.cell? ⟨g0, 4, none⟩ = some (.int .i64 fb) := HM4.out.1.cells.2.2.2.2.1
            have d5 : w4.cell? ⟨g0, 5, none⟩ = some (.int .i64 fp) := HM4.out.1.cells.2.2.2.2.2
            have hbd := (Below.refl w4.heap.size w4).drew
            have hbl : Below w4.heap.size w4 (w4.drew.alloc (.cells #[.int .u8 fb, .int .u8 fp] 5)) := hbd.alloc (Nat.le_refl _) _
            have hlit : ∀ W : World, RV (W.alloc (.cells #[.int .u8 fb, .int .u8 fp] 5)) (some ⟨W.heap.size, 0, none⟩) (bv [UInt8.ofNat fb.toNat, UInt8.ofNat fp.toNat]) := fun W => by
              have h := (RowB.new W 5 [UInt8.ofNat fb.toNat, UInt8.ofNat fp.toNat]).rv
              simp only [bv, List.map_cons, List.map_nil, HLB.out.2.1, HLB.out.2.2] at h ⊢
              exact h
            have ho4 := H2.out.2.2.1.below HM4.out.2
            have hr4 := H2.out.2.2.2.below HM4.out.2
            have hrow : ∀ k, u6.ownBlock = some k → w.heap.size ≤ k ∧ k < g0 + 1 := fun k hk => by have := HN.out.2.2.2.1.blk hk; rw [alloc_sz] at this; have := HG0.out; omega
            have hrow' : ∀ k, u6.ownBlock = some k → k ≠ g0 := fun k hk => by have := HX.out.2.1.blk hk; have := HG0.out; omega
            have HA := Lib.hid (And.intro (ho4.below hbd) (hr4.below hbd))
            have HB := Lib.hid (And.intro (ho4.below hbl) (hr4.below hbl))
            have hsz1 : Y.length + kb.length ≤ 140737488355328 := by rw [HN.out.2.2.2.2.2]; omega
            have hsz2 : (Y ++ kb).length + [UInt8.ofNat fb.toNat, UInt8.ofNat fp.toNat].length ≤ 140737488355328 := by rw [List.length_append, HN.out.2.2.2.2.2]; simp; omega
            have HSZ := Lib.hid (And.intro hsz1 hsz2)
            have hbw4 : w.heap.size ≤ w4.heap.size := by omega
            have hg4 : g0 + 1 ≤ w4.heap.size := HM4.out.1.1.lt
            have far : ∀ (W w6 : World), Below w4.heap.size w4 W → W.grownBy w6 u6.ownBlock → w6.cell? ⟨g0, 4, none⟩ = some (.int .i64 fb) ∧ w6.cell? ⟨g0, 5, none⟩ = some (.int .i64 fp) ∧ Below w.heap.size w w6 ∧ W.heap.size ≤ w6.heap.size := fun W w6 hb hg => by
              have hz := hb.size
              have hB : w6.heap[g0]? = w4.heap[g0]? := (hg.block g0 (by omega) (fun e => hrow' g0 e.symm rfl)).trans (hb.block g0 (by omega))
              have e4 : w6.cell? ⟨g0, 4, none⟩ = w4.cell? ⟨g0, 4, none⟩ := World.cell?_of_block hB
              have e5 : w6.cell? ⟨g0, 5, none⟩ = w4.cell? ⟨g0, 5, none⟩ := World.cell?_of_block hB
              have hbw := below_then HM4.out.1.2 hbw4 hb
              exact ⟨e4.trans d4, e5.trans d5, hbw.grown hg (by omega) (fun k e => (hrow k e).1), hg.size⟩
            have on : ∀ (W w7 : World) (b : Option Nat), (W.cell? ⟨g0, 4, none⟩ = some (.int .i64 fb) ∧ W.cell? ⟨g0, 5, none⟩ = some (.int .i64 fp)) → g0 < W.heap.size → W.grownBy w7 b → some g0 ≠ b → (w7.cell? ⟨g0, 4, none⟩ = some (.int .i64 fb) ∧ w7.cell? ⟨g0, 5, none⟩ = some (.int .i64 fp)) := fun W w7 b hc hlt hg hne => by
              have hB : w7.heap[g0]? = W.heap[g0]? := hg.block g0 hlt hne
              have e4 : w7.cell? ⟨g0, 4, none⟩ = W.cell? ⟨g0, 4, none⟩ := World.cell?_of_block hB
              have e5 : w7.cell? ⟨g0, 5, none⟩ = W.cell? ⟨g0, 5, none⟩ := World.cell?_of_block hB
              exact ⟨e4.trans hc.1, e5.trans hc.2⟩
            have PA : ∀ (v6 : Value) (w6 : World), OwnB 5 w6 w.heap.size v6 (Y ++ kb) → w4.drew.grownBy w6 u6.ownBlock → (v6.ownBlock = u6.ownBlock ∨ v6.ownBlock = some w4.drew.heap.size) →
                (w6.cell? ⟨g0, 4, none⟩ = some (.int .i64 fb) ∧ w6.cell? ⟨g0, 5, none⟩ = some (.int .i64 fp)) ∧ Hid (OwnB 5 (w6.alloc (.cells #[.int .u8 fb, .int .u8 fp] 5)) w.heap.size v6 (Y ++ kb) ∧ RV (w6.alloc (.cells #[.int .u8 fb, .int .u8 fp] 5)) (some ⟨w6.heap.size, 0, none⟩) (bv [UInt8.ofNat fb.toNat, UInt8.ofNat fp.toNat]) ∧ w.heap.size ≤ (w6.alloc (.cells #[.int .u8 fb, .int .u8 fp] 5)).heap.size ∧ Below w.heap.size w (w6.alloc (.cells #[.int .u8 fb, .int .u8 fp] 5)) ∧ ∀ w7, (w6.alloc (.cells #[.int .u8 fb, .int .u8 fp] 5)).grownBy w7 v6.ownBlock → (w7.cell? ⟨g0, 4, none⟩ = some (.int .i64 fb) ∧ w7.cell? ⟨g0, 5, none⟩ = some (.int .i64 fp))) := fun v6 w6 ho hg hv => by
              obtain ⟨f4, f5, f6, f7⟩ := far _ _ hbd hg
              have hb := (Below.refl w6.heap.size w6).alloc (Nat.le_refl _) (.cells #[.int .u8 fb, .int .u8 fp] 5)
              exact ⟨⟨f4, f5⟩, ho.below hb, hlit w6, Nat.le_trans f6.size hb.size, below_then f6 f6.size hb, fun w7 hg7 => on _ _ _ ⟨Lib.cell?_alloc_some _ f4, Lib.cell?_alloc_some _ f5⟩ (by have := hb.size; have : w4.drew.heap.size = w4.heap.size := rfl; omega) hg7 (by rcases hv with hv | hv <;> rw [hv]; exact fun e => hrow' g0 e.symm rfl; intro e; injection e with e; have : w4.drew.heap.size = w4.heap.size := rfl; omega)⟩
            have PB : ∀ (v6 : Value) (w6 : World), OwnB 5 w6 w.heap.size v6 (Y ++ kb) → (w4.drew.alloc (.cells #[.int .u8 fb, .int .u8 fp] 5)).grownBy w6 u6.ownBlock → (v6.ownBlock = u6.ownBlock ∨ v6.ownBlock = some (w4.drew.alloc (.cells #[.int .u8 fb, .int .u8 fp] 5)).heap.size) →
                (w6.cell? ⟨g0, 4, none⟩ = some (.int .i64 fb) ∧ w6.cell? ⟨g0, 5, none⟩ = some (.int .i64 fp)) ∧ Hid (OwnB 5 w6 w.heap.size v6 (Y ++ kb) ∧ RV w6 (some ⟨w4.heap.size, 0, none⟩) (bv [UInt8.ofNat fb.toNat, UInt8.ofNat fp.toNat]) ∧ w.heap.size ≤ w6.heap.size ∧ Below w.heap.size w w6 ∧ ∀ w7, w6.grownBy w7 v6.ownBlock → (w7.cell? ⟨g0, 4, none⟩ = some (.int .i64 fb) ∧ w7.cell? ⟨g0, 5, none⟩ = some (.int .i64 fp))) := fun v6 w6 ho hg hv => by
              obtain ⟨f4, f5, f6, f7⟩ := far _ _ hbl hg
              refine ⟨⟨f4, f5⟩, ho, ?_, f6.size, f6, fun w7 hg7 => on _ _ _ ⟨f4, f5⟩ (by have : w4.drew.heap.size = w4.heap.size := rfl; have := hbl.size; omega) hg7 (by rcases hv with hv | hv <;> rw [hv]; exact fun e => hrow' g0 e.symm rfl; intro e; injection e with e; rw [alloc_sz] at e; have : w4.drew.heap.size = w4.heap.size := rfl; omega)⟩
              exact (hlit w4.drew).grown hg fun ad e _ => by injection e with e; subst e; intro e; have := (hrow _ e.symm).2; have : w4.drew.heap.size = w4.heap.size := rfl; dsimp only at *; omega
            have PC : ∀ (W : World) (v6 v7 : Value) (w7 : World), OwnB 5 W w.heap.size v6 (Y ++ kb) → Below w.heap.size w W → OwnB 5 w7 w.heap.size v7 ((Y ++ kb) ++ [UInt8.ofNat fb.toNat, UInt8.ofNat fp.toNat]) → W.grownBy w7 v6.ownBlock → Hid (OwnB 5 w7 w.heap.size v7 (UInt8.ofNat n :: (l.take (j + 1)).flatMap chdB) ∧ Below w.heap.size w w7) := fun W v6 v7 w7 ho hb ho7 hg => by
              refine And.intro ?_ (hb.grown hg hb.size fun k e => (ho.blk e).1)
              rw [HN.out.1, HLB.out.1, ← List.append_assoc]
              exact ho7
            have HPA := Lib.hid PA
            have HPB := Lib.hid PB
            have HPC := Lib.hid PC
            clear PA PB PC far on hlit ho4 hr4 hrow hrow' hsz1 hsz2 hbd hbl
            go_wp2_with fail
            go_region_held3 (fun w' => w'.cell? ⟨g0, 4, none⟩ = some (.int .i64 fb) ∧ w'.cell? ⟨g0, 5, none⟩ = some (.int .i64 fp))
              (first | exact ⟨d4, d5⟩ | exact ⟨Lib.cell?_alloc_some _ d4, Lib.cell?_alloc_some _ d5⟩ | exact ⟨q4, q5⟩ | exact ⟨Lib.cell?_alloc_some _ q4, Lib.cell?_alloc_some _ q5⟩ | exact ⟨r4, r5⟩)
              (first
              | (refine step_appB w4.drew rfl (.tmp 74) (.tmp 75) 22 rfl w.heap.size 5 Try.underlying22 u8info u6 Y (by simp [Act.eval, Act.put]) HA.out.1 A2 qk d2' kb (by simp [Act.eval, Act.put]) HN.out.2.2.2.2.2 HA.out.2 HSZ.out.1 hbw4 ?_; intro v6 w6 ho6 hg6 hv6; obtain ⟨⟨q4, q5⟩, HQA⟩ := HPA.out v6 w6 ho6 hg6 hv6; clear ho6 hg6 hv6)
              | (refine step_appB _ rfl (.tmp 74) (.tmp 75) 22 rfl w.heap.size 5 Try.underlying22 u8info u6 Y (by simp [Act.eval, Act.put]) HB.out.1 A2 qk d2' kb (by simp [Act.eval, Act.put]) HN.out.2.2.2.2.2 HB.out.2 HSZ.out.1 (Nat.le_trans hbw4 (by simp)) ?_; intro v6 w6 ho6 hg6 hv6; obtain ⟨⟨q4, q5⟩, HQB⟩ := HPB.out v6 w6 ho6 hg6 hv6; clear ho6 hg6 hv6)
              | (refine step_appB _ rfl (.tmp 76) (.tmp 83) 22 rfl w.heap.size 5 Try.underlying22 u8info v6 (Y ++ kb) (by simp [Act.eval, Act.put]) HQA.out.1 (some ⟨w6.heap.size, 0, none⟩) 2 2 [UInt8.ofNat fb.toNat, UInt8.ofNat fp.toNat] (by simp [Act.eval, Act.put]) rfl HQA.out.2.1 HSZ.out.2 HQA.out.2.2.1 ?_; intro v7 w7 ho7 hg7 hv7; have H7 := HPC.out _ v6 v7 w7 HQA.out.1 HQA.out.2.2.2.1 ho7 hg7; obtain ⟨r4, r5⟩ := HQA.out.2.2.2.2 w7 hg7; clear ho7 hg7 hv7)
              | (refine step_appB _ rfl (.tmp 76) (.tmp 83) 22 rfl w.heap.size 5 Try.underlying22 u8info v6 (Y ++ kb) (by simp [Act.eval, Act.put]) HQB.out.1 (some ⟨w4.heap.size, 0, none⟩) 2 2 [UInt8.ofNat fb.toNat, UInt8.ofNat fp.toNat] (by simp [Act.eval, Act.put]) rfl HQB.out.2.1 HSZ.out.2 HQB.out.2.2.1 ?_; intro v7 w7 ho7 hg7 hv7; have H7 := HPC.out _ v6 v7 w7 HQB.out.1 HQB.out.2.2.2.1 ho7 hg7; obtain ⟨r4, r5⟩ := HQB.out.2.2.2.2 w7 hg7; clear ho7 hg7 hv7))
            all_goals
              go_wp2_with fail
              go_roundg (n - (j + 1))
              case measure => have := HX.out.1; omega
              case rel => exact ⟨j + 1, by have := HX.out.1; omega, by go_num, H7.out.1, H7.out.2, HN.out.2.1, HN.out.2.2.1⟩
          · have hkb := (keyB_length hm).2
            have hpk := HPK
            rw [show putKeyS ⟨fi, fa, fs, fc⟩ = (keyB ⟨fi, fa, fs, fc⟩, 0) from if_pos hm] at hpk
            have HP := Lib.hid hpk
            clear hpk HPK
            have t4 : decide (fb < 0) = false := decide_eq_false (by omega)
            have t5 : decide (255 < fb) = false := decide_eq_false (by omega)
            have t6 : decide (fp < 0) = false := decide_eq_false (by omega)
            have t7 : decide (255 < fp) = false := decide_eq_false (by omega)
            have q3 : decide (0 < (j : Int)) = true := decide_eq_true (by omega)
            have q4 : decide (0 < j) = true := decide_eq_true (by omega)
            obtain ⟨q, hq⟩ : ∃ q, j = q + 1 := ⟨j - 1, by omega⟩
            have hwm : IntKind.i64.wrap ((j : Int) - 1) = (q : Int) := by rw [hq]; exact (IntWalk.i64_in _ (by omega)).trans (by omega)
            have hmn : (q : Int) < (n : Int) := by omega
            obtain ⟨x, hx⟩ : ∃ x, l[q]? = some x := ⟨_, List.getElem?_eq_getElem (by have := H.out.2.1; omega)⟩
            obtain ⟨okx, ad', hA', hblk', x0, x1, x2, x3, _, _⟩ := ChdsIn.at_ H.out.1 hx
            injection hA' with hA'
            subst hA'
            have HXX := Lib.hid (And.intro hx (And.intro hblk' (And.intro x0 (And.intro x1 (And.intro x2 (And.intro x3 hq))))))
            clear x0 x1 x2 x3 hx hq
            obtain ⟨⟨xi, xa, xs, xc⟩, xb, xp⟩ := x
            dsimp only at HXX
            have HKB := Lib.hid (fun w => beforeK_any w ⟨xi, xa, xs, xc⟩ ⟨fi, fa, fs, fc⟩)
            unfold Ky.val at HKB
            dsimp only at HKB
            have hlt' : keyLt ⟨xi, xa, xs, xc⟩ ⟨fi, fa, fs, fc⟩ := hos ⟨⟨xi, xa, xs, xc⟩, xb, xp⟩ hj0 (by rw [HXX.out.2.2.2.2.2.2, Nat.add_sub_cancel]; exact HXX.out.1)
            rw [decide_eq_true hlt'] at HKB
            clear hlt'
            have hfit : fitC ⟨⟨fi, fa, fs, fc⟩, fb, fp⟩ := ⟨hm, ⟨hl1, hl2⟩, hl3, hl4⟩
            have hle := flat_chd_le (l.take j) HX.out.2.2.2.1
            rw [List.length_take] at hle
            have hxl : (UInt8.ofNat n :: (l.take j).flatMap chdB).length ≤ 70000 := by rw [List.length_cons]; omega
            have hft : UInt8.ofNat n :: (l.take (j + 1)).flatMap chdB = (UInt8.ofNat n :: (l.take j).flatMap chdB) ++ chdB ⟨⟨fi, fa, fs, fc⟩, fb, fp⟩ := by
              rw [List.take_add_one, HV.out.1, List.flatMap_append]
              simp
            have hal : ∀ x ∈ l.take (j + 1), fitC x := by
              intro x hx
              rw [List.take_add_one, HV.out.1] at hx
              rcases List.mem_append.1 hx with hx | hx
              · exact HX.out.2.2.2.1 x hx
              · simp at hx
                rw [hx]
                exact hfit
            have hor : ∀ i f, i < j + 1 → l[i]? = some f → stepC l i f := by
              intro i f hi hf
              rcases Nat.lt_or_ge i j with h | h
              · exact HX.out.2.2.2.2 i f h hf
              · obtain rfl : i = j := by omega
                rw [HV.out.1] at hf
                cases hf
                exact hos
            have hown := HM.out.2
            generalize UInt8.ofNat n :: (l.take j).flatMap chdB = Y at hxl hft hown
            generalize hkb' : keyB ⟨fi, fa, fs, fc⟩ = kb at HP hkb
            obtain ⟨qk, hqk⟩ : ∃ q, kb.length = q := ⟨_, rfl⟩
            rw [hqk] at hkb
            have HN := Lib.hid (And.intro hft (And.intro hal (And.intro hor (And.intro hown (And.intro hkb' hqk)))))
            have hLb : chdB ⟨⟨fi, fa, fs, fc⟩, fb, fp⟩ = kb ++ [UInt8.ofNat fb.toNat, UInt8.ofNat fp.toNat] := by
              show keyB ⟨fi, fa, fs, fc⟩ ++ _ = _
              rw [hkb']
            have HLB := Lib.hid (And.intro hLb (And.intro (byte_back ⟨hl1, hl2⟩) (byte_back ⟨hl3, hl4⟩)))
            have hw1 : IntKind.u8.wrap fb = fb := IntWalk.u8_in _ ⟨hl1, hl2⟩
            have hw2 : IntKind.u8.wrap fp = fp := IntWalk.u8_in _ ⟨hl3, hl4⟩
            clear hm hfit hle hft hal hor hown hkb' hqk hLb hos
            go_wp2_with fail
            refine (HP.out _).mono ?_
            rintro e w2 ⟨v2, rfl, ho2, hb2⟩
            obtain ⟨A2, d2', rfl, hrv2, _, _, _⟩ := ho2.slice
            have H2 := Lib.hid (And.intro (HM.out.1.step hb2) (And.intro ho2 (And.intro (HN.out.2.2.2.1.below hb2) hrv2)))
            have hsg := hb2.size
            have hsw := H2.out.1.2.size
            clear ho2 hb2 hrv2 p0 p1 p2 p3 p4 p5 m0 m1 m2 m3 m4 m5
            dsimp only
            rw [HN.out.2.2.2.2.2]
            go_wp2_with fail
            generalize hg0 : wr.heap.size = g0 at *
            have HG0 := Lib.hid hg0
            clear hg0
            have m0 : ∀ p : InC (fun w' => Below w2.heap.size w2 w'), p.w.cell? ⟨g0, 0, none⟩ = some (.int .i64 fi) := fun p => (H2.out.1.step p.h).cells.1
            have m1 : ∀ p : InC (fun w' => Below w2.heap.size w2 w'), p.w.cell? ⟨g0, 1, none⟩ = some (.int .u8 (fa.toNat : Int)) := fun p => (H2.out.1.step p.h).cells.2.1
            have m2 : ∀ p : InC (fun w' => Below w2.heap.size w2 w'), p.w.cell? ⟨g0, 2, none⟩ = some (.string fs) := fun p => (H2.out.1.step p.h).cells.2.2.1
            have m3 : ∀ p : InC (fun w' => Below w2.heap.size w2 w'), p.w.cell? ⟨g0, 3, none⟩ = some (.int .i64 fc) := fun p => (H2.out.1.step p.h).cells.2.2.2.1
            have m4 : ∀ p : InC (fun w' => Below w2.heap.size w2 w'), p.w.cell? ⟨g0, 4, none⟩ = some (.int .i64 fb) := fun p => (H2.out.1.step p.h).cells.2.2.2.2.1
            have m5 : ∀ p : InC (fun w' => Below w2.heap.size w2 w'), p.w.cell? ⟨g0, 5, none⟩ = some (.int .i64 fp) := fun p => (H2.out.1.step p.h).cells.2.2.2.2.2
            have n0 : ∀ p : InC (fun w' => Below w2.heap.size w2 w'), p.w.cell? (ad.add (q * 6)) = some (.int .i64 xi) := fun p => (H2.out.1.step p.h).old HXX.out.2.2.1 hblk'
            have n1 : ∀ p : InC (fun w' => Below w2.heap.size w2 w'), p.w.cell? ⟨(ad.add (q * 6)).block, (ad.add (q * 6)).off + 1, none⟩ = some (.int .u8 (xa.toNat : Int)) := fun p => (H2.out.1.step p.h).old HXX.out.2.2.2.1 hblk'
            have n2 : ∀ p : InC (fun w' => Below w2.heap.size w2 w'), p.w.cell? ⟨(ad.add (q * 6)).block, (ad.add (q * 6)).off + 2, none⟩ = some (.string xs) := fun p => (H2.out.1.step p.h).old HXX.out.2.2.2.2.1 hblk'
            have n3 : ∀ p : InC (fun w' => Below w2.heap.size w2 w'), p.w.cell? ⟨(ad.add (q * 6)).block, (ad.add (q * 6)).off + 3, none⟩ = some (.int .i64 xc) := fun p => (H2.out.1.step p.h).old HXX.out.2.2.2.2.2.1 hblk'
            have hinh : Nonempty (InC (fun w' => Below w2.heap.size w2 w')) := ⟨⟨w2, Below.refl _ _⟩⟩
            refine wp_region_class (fun w' => Below w2.heap.size w2 w') (by kernel_rfl) (by kernel_rfl) (Below.refl _ _).drew ?_
            repeat (go_big_quiet_step (first | (go_at_call 37; rename_i p; exact class_call (HKB.out _) (fun _ hb => below_then p.h p.h.size hb))))
            refine wpQuiet_nil ?_
            rintro _ ⟨p4', rfl⟩
            clear hinh m0 m1 m2 m3 m4 m5 n0 n1 n2 n3
            have hb4 := p4'.h
            have hs4 := hb4.size
            generalize p4'.w = w4 at hb4 hs4 ⊢
            have HM4 := Lib.hid (And.intro (H2.out.1.step hb4) hb4)
            clear hb4
            have d4 : w4.cell? ⟨g0, 4, none⟩ = some (.int .i64 fb) := HM4.out.1.cells.2.2.2.2.1
            have d5 : w4.cell? ⟨g0, 5, none⟩ = some (.int .i64 fp) := HM4.out.1.cells.2.2.2.2.2
            have hbd := (Below.refl w4.heap.size w4).drew
            have hbl : Below w4.heap.size w4 (w4.drew.alloc (.cells #[.int .u8 fb, .int .u8 fp] 5)) := hbd.alloc (Nat.le_refl _) _
            have hlit : ∀ W : World, RV (W.alloc (.cells #[.int .u8 fb, .int .u8 fp] 5)) (some ⟨W.heap.size, 0, none⟩) (bv [UInt8.ofNat fb.toNat, UInt8.ofNat fp.toNat]) := fun W => by
              have h := (RowB.new W 5 [UInt8.ofNat fb.toNat, UInt8.ofNat fp.toNat]).rv
              simp only [bv, List.map_cons, List.map_nil, HLB.out.2.1, HLB.out.2.2] at h ⊢
              exact h
            have ho4 := H2.out.2.2.1.below HM4.out.2
            have hr4 := H2.out.2.2.2.below HM4.out.2
            have hrow : ∀ k, u6.ownBlock = some k → w.heap.size ≤ k ∧ k < g0 + 1 := fun k hk => by have := HN.out.2.2.2.1.blk hk; rw [alloc_sz] at this; have := HG0.out; omega
            have hrow' : ∀ k, u6.ownBlock = some k → k ≠ g0 := fun k hk => by have := HX.out.2.1.blk hk; have := HG0.out; omega
            have HA := Lib.hid (And.intro (ho4.below hbd) (hr4.below hbd))
            have HB := Lib.hid (And.intro (ho4.below hbl) (hr4.below hbl))
            have hsz1 : Y.length + kb.length ≤ 140737488355328 := by rw [HN.out.2.2.2.2.2]; omega
            have hsz2 : (Y ++ kb).length + [UInt8.ofNat fb.toNat, UInt8.ofNat fp.toNat].length ≤ 140737488355328 := by rw [List.length_append, HN.out.2.2.2.2.2]; simp; omega
            have HSZ := Lib.hid (And.intro hsz1 hsz2)
            have hbw4 : w.heap.size ≤ w4.heap.size := by omega
            have hg4 : g0 + 1 ≤ w4.heap.size := HM4.out.1.1.lt
            have far : ∀ (W w6 : World), Below w4.heap.size w4 W → W.grownBy w6 u6.ownBlock → w6.cell? ⟨g0, 4, none⟩ = some (.int .i64 fb) ∧ w6.cell? ⟨g0, 5, none⟩ = some (.int .i64 fp) ∧ Below w.heap.size w w6 ∧ W.heap.size ≤ w6.heap.size := fun W w6 hb hg => by
              have hz := hb.size
              have hB : w6.heap[g0]? = w4.heap[g0]? := (hg.block g0 (by omega) (fun e => hrow' g0 e.symm rfl)).trans (hb.block g0 (by omega))
              have e4 : w6.cell? ⟨g0, 4, none⟩ = w4.cell? ⟨g0, 4, none⟩ := World.cell?_of_block hB
              have e5 : w6.cell? ⟨g0, 5, none⟩ = w4.cell? ⟨g0, 5, none⟩ := World.cell?_of_block hB
              have hbw := below_then HM4.out.1.2 hbw4 hb
              exact ⟨e4.trans d4, e5.trans d5, hbw.grown hg (by omega) (fun k e => (hrow k e).1), hg.size⟩
            have on : ∀ (W w7 : World) (b : Option Nat), (W.cell? ⟨g0, 4, none⟩ = some (.int .i64 fb) ∧ W.cell? ⟨g0, 5, none⟩ = some (.int .i64 fp)) → g0 < W.heap.size → W.grownBy w7 b → some g0 ≠ b → (w7.cell? ⟨g0, 4, none⟩ = some (.int .i64 fb) ∧ w7.cell? ⟨g0, 5, none⟩ = some (.int .i64 fp)) := fun W w7 b hc hlt hg hne => by
              have hB : w7.heap[g0]? = W.heap[g0]? := hg.block g0 hlt hne
              have e4 : w7.cell? ⟨g0, 4, none⟩ = W.cell? ⟨g0, 4, none⟩ := World.cell?_of_block hB
              have e5 : w7.cell? ⟨g0, 5, none⟩ = W.cell? ⟨g0, 5, none⟩ := World.cell?_of_block hB
              exact ⟨e4.trans hc.1, e5.trans hc.2⟩
            have PA : ∀ (v6 : Value) (w6 : World), OwnB 5 w6 w.heap.size v6 (Y ++ kb) → w4.drew.grownBy w6 u6.ownBlock → (v6.ownBlock = u6.ownBlock ∨ v6.ownBlock = some w4.drew.heap.size) →
                (w6.cell? ⟨g0, 4, none⟩ = some (.int .i64 fb) ∧ w6.cell? ⟨g0, 5, none⟩ = some (.int .i64 fp)) ∧ Hid (OwnB 5 (w6.alloc (.cells #[.int .u8 fb, .int .u8 fp] 5)) w.heap.size v6 (Y ++ kb) ∧ RV (w6.alloc (.cells #[.int .u8 fb, .int .u8 fp] 5)) (some ⟨w6.heap.size, 0, none⟩) (bv [UInt8.ofNat fb.toNat, UInt8.ofNat fp.toNat]) ∧ w.heap.size ≤ (w6.alloc (.cells #[.int .u8 fb, .int .u8 fp] 5)).heap.size ∧ Below w.heap.size w (w6.alloc (.cells #[.int .u8 fb, .int .u8 fp] 5)) ∧ ∀ w7, (w6.alloc (.cells #[.int .u8 fb, .int .u8 fp] 5)).grownBy w7 v6.ownBlock → (w7.cell? ⟨g0, 4, none⟩ = some (.int .i64 fb) ∧ w7.cell? ⟨g0, 5, none⟩ = some (.int .i64 fp))) := fun v6 w6 ho hg hv => by
              obtain ⟨f4, f5, f6, f7⟩ := far _ _ hbd hg
              have hb := (Below.refl w6.heap.size w6).alloc (Nat.le_refl _) (.cells #[.int .u8 fb, .int .u8 fp] 5)
              exact ⟨⟨f4, f5⟩, ho.below hb, hlit w6, Nat.le_trans f6.size hb.size, below_then f6 f6.size hb, fun w7 hg7 => on _ _ _ ⟨Lib.cell?_alloc_some _ f4, Lib.cell?_alloc_some _ f5⟩ (by have := hb.size; have : w4.drew.heap.size = w4.heap.size := rfl; omega) hg7 (by rcases hv with hv | hv <;> rw [hv]; exact fun e => hrow' g0 e.symm rfl; intro e; injection e with e; have : w4.drew.heap.size = w4.heap.size := rfl; omega)⟩
            have PB : ∀ (v6 : Value) (w6 : World), OwnB 5 w6 w.heap.size v6 (Y ++ kb) → (w4.drew.alloc (.cells #[.int .u8 fb, .int .u8 fp] 5)).grownBy w6 u6.ownBlock → (v6.ownBlock = u6.ownBlock ∨ v6.ownBlock = some (w4.drew.alloc (.cells #[.int .u8 fb, .int .u8 fp] 5)).heap.size) →
                (w6.cell? ⟨g0, 4, none⟩ = some (.int .i64 fb) ∧ w6.cell? ⟨g0, 5, none⟩ = some (.int .i64 fp)) ∧ Hid (OwnB 5 w6 w.heap.size v6 (Y ++ kb) ∧ RV w6 (some ⟨w4.heap.size, 0, none⟩) (bv [UInt8.ofNat fb.toNat, UInt8.ofNat fp.toNat]) ∧ w.heap.size ≤ w6.heap.size ∧ Below w.heap.size w w6 ∧ ∀ w7, w6.grownBy w7 v6.ownBlock → (w7.cell? ⟨g0, 4, none⟩ = some (.int .i64 fb) ∧ w7.cell? ⟨g0, 5, none⟩ = some (.int .i64 fp))) := fun v6 w6 ho hg hv => by
              obtain ⟨f4, f5, f6, f7⟩ := far _ _ hbl hg
              refine ⟨⟨f4, f5⟩, ho, ?_, f6.size, f6, fun w7 hg7 => on _ _ _ ⟨f4, f5⟩ (by have : w4.drew.heap.size = w4.heap.size := rfl; have := hbl.size; omega) hg7 (by rcases hv with hv | hv <;> rw [hv]; exact fun e => hrow' g0 e.symm rfl; intro e; injection e with e; rw [alloc_sz] at e; have : w4.drew.heap.size = w4.heap.size := rfl; omega)⟩
              exact (hlit w4.drew).grown hg fun ad e _ => by injection e with e; subst e; intro e; have := (hrow _ e.symm).2; have : w4.drew.heap.size = w4.heap.size := rfl; dsimp only at *; omega
            have PC : ∀ (W : World) (v6 v7 : Value) (w7 : World), OwnB 5 W w.heap.size v6 (Y ++ kb) → Below w.heap.size w W → OwnB 5 w7 w.heap.size v7 ((Y ++ kb) ++ [UInt8.ofNat fb.toNat, UInt8.ofNat fp.toNat]) → W.grownBy w7 v6.ownBlock → Hid (OwnB 5 w7 w.heap.size v7 (UInt8.ofNat n :: (l.take (j + 1)).flatMap chdB) ∧ Below w.heap.size w w7) := fun W v6 v7 w7 ho hb ho7 hg => by
              refine And.intro ?_ (hb.grown hg hb.size fun k e => (ho.blk e).1)
              rw [HN.out.1, HLB.out.1, ← List.append_assoc]
              exact ho7
            have HPA := Lib.hid PA
            have HPB := Lib.hid PB
            have HPC := Lib.hid PC
            clear PA PB PC far on hlit ho4 hr4 hrow hrow' hsz1 hsz2 hbd hbl
            go_wp2_with fail
            go_region_held3 (fun w' => w'.cell? ⟨g0, 4, none⟩ = some (.int .i64 fb) ∧ w'.cell? ⟨g0, 5, none⟩ = some (.int .i64 fp))
              (first | exact ⟨d4, d5⟩ | exact ⟨Lib.cell?_alloc_some _ d4, Lib.cell?_alloc_some _ d5⟩ | exact ⟨q4, q5⟩ | exact ⟨Lib.cell?_alloc_some _ q4, Lib.cell?_alloc_some _ q5⟩ | exact ⟨r4, r5⟩)
              (first
              | (refine step_appB w4.drew rfl (.tmp 74) (.tmp 75) 22 rfl w.heap.size 5 Try.underlying22 u8info u6 Y (by simp [Act.eval, Act.put]) HA.out.1 A2 qk d2' kb (by simp [Act.eval, Act.put]) HN.out.2.2.2.2.2 HA.out.2 HSZ.out.1 hbw4 ?_; intro v6 w6 ho6 hg6 hv6; obtain ⟨⟨q4, q5⟩, HQA⟩ := HPA.out v6 w6 ho6 hg6 hv6; clear ho6 hg6 hv6)
              | (refine step_appB _ rfl (.tmp 74) (.tmp 75) 22 rfl w.heap.size 5 Try.underlying22 u8info u6 Y (by simp [Act.eval, Act.put]) HB.out.1 A2 qk d2' kb (by simp [Act.eval, Act.put]) HN.out.2.2.2.2.2 HB.out.2 HSZ.out.1 (Nat.le_trans hbw4 (by simp)) ?_; intro v6 w6 ho6 hg6 hv6; obtain ⟨⟨q4, q5⟩, HQB⟩ := HPB.out v6 w6 ho6 hg6 hv6; clear ho6 hg6 hv6)
              | (refine step_appB _ rfl (.tmp 76) (.tmp 83) 22 rfl w.heap.size 5 Try.underlying22 u8info v6 (Y ++ kb) (by simp [Act.eval, Act.put]) HQA.out.1 (some ⟨w6.heap.size, 0, none⟩) 2 2 [UInt8.ofNat fb.toNat, UInt8.ofNat fp.toNat] (by simp [Act.eval, Act.put]) rfl HQA.out.2.1 HSZ.out.2 HQA.out.2.2.1 ?_; intro v7 w7 ho7 hg7 hv7; have H7 := HPC.out _ v6 v7 w7 HQA.out.1 HQA.out.2.2.2.1 ho7 hg7; obtain ⟨r4, r5⟩ := HQA.out.2.2.2.2 w7 hg7; clear ho7 hg7 hv7)
              | (refine step_appB _ rfl (.tmp 76) (.tmp 83) 22 rfl w.heap.size 5 Try.underlying22 u8info v6 (Y ++ kb) (by simp [Act.eval, Act.put]) HQB.out.1 (some ⟨w4.heap.size, 0, none⟩) 2 2 [UInt8.ofNat fb.toNat, UInt8.ofNat fp.toNat] (by simp [Act.eval, Act.put]) rfl HQB.out.2.1 HSZ.out.2 HQB.out.2.2.1 ?_; intro v7 w7 ho7 hg7 hv7; have H7 := HPC.out _ v6 v7 w7 HQB.out.1 HQB.out.2.2.2.1 ho7 hg7; obtain ⟨r4, r5⟩ := HQB.out.2.2.2.2 w7 hg7; clear ho7 hg7 hv7))
            all_goals
              go_wp2_with fail
              go_roundg (n - (j + 1))
              case measure => have := HX.out.1; omega
              case rel => exact ⟨j + 1, by have := HX.out.1; omega, by go_num, H7.out.1, H7.out.2, HN.out.2.1, HN.out.2.2.1⟩
        · have hj0 : 0 < j := by
            rcases Nat.eq_zero_or_pos j with h | h
            · exact absurd (fun p hp => by omega) hos
            · exact h
          have hkb := (keyB_length hm).2
          have hpk := HPK
          rw [show putKeyS ⟨fi, fa, fs, fc⟩ = (keyB ⟨fi, fa, fs, fc⟩, 0) from if_pos hm] at hpk
          have HP := Lib.hid hpk
          clear hpk HPK
          have t4 : decide (fb < 0) = false := decide_eq_false (by omega)
          have t5 : decide (255 < fb) = false := decide_eq_false (by omega)
          have t6 : decide (fp < 0) = false := decide_eq_false (by omega)
          have t7 : decide (255 < fp) = false := decide_eq_false (by omega)
          have q3 : decide (0 < (j : Int)) = true := decide_eq_true (by omega)
          have q4 : decide (0 < j) = true := decide_eq_true (by omega)
          obtain ⟨q, hq⟩ : ∃ q, j = q + 1 := ⟨j - 1, by omega⟩
          have hwm : IntKind.i64.wrap ((j : Int) - 1) = (q : Int) := by rw [hq]; exact (IntWalk.i64_in _ (by omega)).trans (by omega)
          have hmn : (q : Int) < (n : Int) := by omega
          obtain ⟨x, hx⟩ : ∃ x, l[q]? = some x := ⟨_, List.getElem?_eq_getElem (by have := H.out.2.1; omega)⟩
          obtain ⟨okx, ad', hA', hblk', x0, x1, x2, x3, _, _⟩ := ChdsIn.at_ H.out.1 hx
          injection hA' with hA'
          subst hA'
          have HXX := Lib.hid (And.intro hx (And.intro hblk' (And.intro x0 (And.intro x1 (And.intro x2 (And.intro x3 hq))))))
          clear x0 x1 x2 x3 hx hq
          obtain ⟨⟨xi, xa, xs, xc⟩, xb, xp⟩ := x
          dsimp only at HXX
          have HKB := Lib.hid (fun w => beforeK_any w ⟨xi, xa, xs, xc⟩ ⟨fi, fa, fs, fc⟩)
          unfold Ky.val at HKB
          dsimp only at HKB
          have hlt' : ¬ keyLt ⟨xi, xa, xs, xc⟩ ⟨fi, fa, fs, fc⟩ := fun hk => hos fun p _ hp => by
            rw [HXX.out.2.2.2.2.2.2, Nat.add_sub_cancel, HXX.out.1] at hp
            cases hp
            exact hk
          rw [decide_eq_false hlt'] at HKB
          have HF := Lib.hid (HBF.out.2 hos)
          clear hm hlt' hos
          go_wp2_with fail
          refine (HP.out _).mono ?_
          rintro e w2 ⟨v2, rfl, ho2, hb2⟩
          obtain ⟨A2, d2', rfl, hrv2, _, _, _⟩ := ho2.slice
          have H2 := Lib.hid (And.intro (HM.out.1.step hb2) (And.intro ho2 (And.intro (HM.out.2.below hb2) hrv2)))
          have hsg := hb2.size
          have hsw := H2.out.1.2.size
          clear ho2 hb2 hrv2 p0 p1 p2 p3 p4 p5 m0 m1 m2 m3 m4 m5
          dsimp only
          skip
          go_wp2_with fail
          generalize hg0 : wr.heap.size = g0 at *
          have HG0 := Lib.hid hg0
          clear hg0
          have m0 : ∀ p : InC (fun w' => Below w2.heap.size w2 w'), p.w.cell? ⟨g0, 0, none⟩ = some (.int .i64 fi) := fun p => (H2.out.1.step p.h).cells.1
          have m1 : ∀ p : InC (fun w' => Below w2.heap.size w2 w'), p.w.cell? ⟨g0, 1, none⟩ = some (.int .u8 (fa.toNat : Int)) := fun p => (H2.out.1.step p.h).cells.2.1
          have m2 : ∀ p : InC (fun w' => Below w2.heap.size w2 w'), p.w.cell? ⟨g0, 2, none⟩ = some (.string fs) := fun p => (H2.out.1.step p.h).cells.2.2.1
          have m3 : ∀ p : InC (fun w' => Below w2.heap.size w2 w'), p.w.cell? ⟨g0, 3, none⟩ = some (.int .i64 fc) := fun p => (H2.out.1.step p.h).cells.2.2.2.1
          have m4 : ∀ p : InC (fun w' => Below w2.heap.size w2 w'), p.w.cell? ⟨g0, 4, none⟩ = some (.int .i64 fb) := fun p => (H2.out.1.step p.h).cells.2.2.2.2.1
          have m5 : ∀ p : InC (fun w' => Below w2.heap.size w2 w'), p.w.cell? ⟨g0, 5, none⟩ = some (.int .i64 fp) := fun p => (H2.out.1.step p.h).cells.2.2.2.2.2
          have n0 : ∀ p : InC (fun w' => Below w2.heap.size w2 w'), p.w.cell? (ad.add (q * 6)) = some (.int .i64 xi) := fun p => (H2.out.1.step p.h).old HXX.out.2.2.1 hblk'
          have n1 : ∀ p : InC (fun w' => Below w2.heap.size w2 w'), p.w.cell? ⟨(ad.add (q * 6)).block, (ad.add (q * 6)).off + 1, none⟩ = some (.int .u8 (xa.toNat : Int)) := fun p => (H2.out.1.step p.h).old HXX.out.2.2.2.1 hblk'
          have n2 : ∀ p : InC (fun w' => Below w2.heap.size w2 w'), p.w.cell? ⟨(ad.add (q * 6)).block, (ad.add (q * 6)).off + 2, none⟩ = some (.string xs) := fun p => (H2.out.1.step p.h).old HXX.out.2.2.2.2.1 hblk'
          have n3 : ∀ p : InC (fun w' => Below w2.heap.size w2 w'), p.w.cell? ⟨(ad.add (q * 6)).block, (ad.add (q * 6)).off + 3, none⟩ = some (.int .i64 xc) := fun p => (H2.out.1.step p.h).old HXX.out.2.2.2.2.2.1 hblk'
          have hinh : Nonempty (InC (fun w' => Below w2.heap.size w2 w')) := ⟨⟨w2, Below.refl _ _⟩⟩
          refine wp_region_class (fun w' => Below w2.heap.size w2 w') (by kernel_rfl) (by kernel_rfl) (Below.refl _ _).drew ?_
          repeat (go_big_quiet_step (first | (go_at_call 37; rename_i p; exact class_call (HKB.out _) (fun _ hb => below_then p.h p.h.size hb))))
          refine wpQuiet_nil ?_
          rintro _ ⟨p4', rfl⟩
          clear hinh m0 m1 m2 m3 m4 m5 n0 n1 n2 n3
          have hb4 := p4'.h
          have hs4 := hb4.size
          generalize p4'.w = w4 at hb4 hs4 ⊢
          have HM4 := Lib.hid (And.intro (H2.out.1.step hb4) hb4)
          clear hb4
          go_wp2_with fail
          go_ret2
          rw [HF.out]
          exact ⟨_, rfl, OwnB.nil _ _ _, HM4.out.1.2⟩
      · obtain rfl : j = n := by have := HX.out.1; omega
        have hge : ¬ (j : Int) < (j : Int) := by omega
        have ho := HX.out.2.1
        have hall := HX.out.2.2.2.1
        rw [List.take_of_length_le (by have := H.out.2.1; omega)] at ho hall
        have hok : innOk l := ⟨by have := H.out.2.1; omega, by have := H.out.2.1; omega, hall, (chain_iff l).2 fun i f hf => HX.out.2.2.2.2 i f (by have := (List.getElem?_eq_some_iff.1 hf).1; have := H.out.2.1; omega) hf⟩
        have hle := innB_le hok
        have hlb : innB l = UInt8.ofNat j :: l.flatMap chdB := by unfold innB; rw [H.out.2.1]
        rw [← hlb] at ho
        have hrr : r = putPageS s 5 (innB l) := by rw [← H.out.2.2]; exact if_pos hok
        generalize innB l = X at *
        obtain ⟨A3, d3, rfl, hrv, hl, hm, _⟩ := ho.slice
        have HF := Lib.hid (And.intro hrr hrv)
        clear hall hok hlb ho hrr hrv
        go_wp2_with fail
        refine (putPage_any wr s 5 A3 d3 X HF.out.2 (Nat.le_trans hl hm)).mono ?_
        rintro e w3 ⟨v3, rfl, ho3, hb3⟩
        have H3 := Lib.hid (And.intro ho3 hb3)
        clear ho3 hb3
        go_wp2_with fail
        go_ret2
        rw [HF.out.1]
        exact ⟨_, rfl, H3.out.1.lower HX.out.2.2.1.size, below_then HX.out.2.2.1 HX.out.2.2.1.size H3.out.2⟩
  · have HF := Lib.hid (HBAD.out fun hb => by have := hb.2.1; have := H.out.2.1; omega)
    have t2 : decide (255 < n) = true := decide_eq_true (by omega)
    have t3 : decide ((255 : Int) < (n : Int)) = true := decide_eq_true (by omega)
    go_enter Try.func23, Try.ntmps23
    go_wp2_with fail
    go_ret2
    rw [HF.out]
    exact ⟨_, rfl, OwnB.nil _ _ _, Below.refl _ _⟩
end Go.Proofs.Ytegoeagmadhpgaa
