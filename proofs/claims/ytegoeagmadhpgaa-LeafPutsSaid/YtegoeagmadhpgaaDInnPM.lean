import Derived.Deep.RegionHeld3
import Derived.Lib.SliceRun
import Derived.Test.YtegoeagmadhpgaaMU
import Derived.Test.YtegoeagmadhpgaaLeafRM
import Derived.Test.YtegoeagmadhpgaaMDKey
import Derived.Test.YtegoeagmadhpgaaMApp
import Derived.Test.YtegoeagmadhpgaaSealFM
import Derived.Test.YtegoeagmadhpgaaMPut
import Derived.Test.YtegoeagmadhpgaaClsM
import Derived.Test.YtegoeagmadhpgaaKeyEM
set_option linter.unusedVariables false
set_option linter.unusedSimpArgs false
/- Layer 15, the document's PutInner: contract. -/
namespace Go.Proofs.Ytegoeagmadhpgaa
open Go.RowKit

set_option maxRecDepth 100000 in
set_option maxHeartbeats 8000000 in
theorem dPutInner_any (w : World) (s : Int) (A : Option Addr) (n d : Nat) (l : List Chd) (h : ChdsIn w A n l) (hn : n ≤ 140737488355328) :
    Calls Try.prog 24 #[.int .i64 s, .slice A n d] w (PutPageEnd w (putInnerS s l)) := by
  obtain ⟨r, hr⟩ : ∃ r, putInnerS s l = r := ⟨_, rfl⟩
  rw [hr]
  have H := Lib.hid (show ChdsIn w A n l ∧ l.length = n ∧ putInnerS s l = r from ⟨h, h.1, hr⟩)
  clear h hr
  have hbad : ¬ innOk l → r = ([], 2) := fun hb => by rw [← H.out.2.2]; exact if_neg hb
  have HBAD := Lib.hid hbad
  clear hbad
  rcases (show n < 1 ∨ (1 ≤ n ∧ n ≤ 255) ∨ (1 ≤ n ∧ 255 < n) by omega) with h0 | ⟨h1, h2⟩ | ⟨h1, h2⟩
  · have HF := Lib.hid (HBAD.out fun hb => by have := hb.1; have := H.out.2.1; omega)
    go_enter Try.func24, Try.ntmps24
    go_wp2_with fail
    go_ret2
    rw [HF.out]
    exact ⟨_, rfl, OwnB.nil _ _ _, Below.refl _ _⟩
  · have t2 : decide (255 < n) = false := decide_eq_false (by omega)
    have t3 : decide ((255 : Int) < (n : Int)) = false := decide_eq_false (by omega)
    go_enter Try.func24, Try.ntmps24
    go_wp2_with fail
    have hlit := own_lit1 w 5 n (by omega)
    have HL := Lib.hid (And.intro hlit ((Below.refl w.heap.size w).alloc (Nat.le_refl _) (.cells #[.int .u8 (n : Int)] 5)))
    clear hlit
    go_loopg [6, 7] n (fun k v i wr => ∃ j : Nat, j + k = n ∧ i = .int .i64 j ∧ OwnB 5 wr w.heap.size v (UInt8.ofNat n :: (l.take j).flatMap chdB) ∧ Below w.heap.size w wr ∧ (∀ f ∈ l.take j, fitC f) ∧ ∀ i f, i < j → l[i]? = some f → stepC l i f)
    case atStart => exact ⟨0, by omega, rfl, HL.out.1, HL.out.2, fun f hf => by simp at hf, fun i f h => by omega⟩
    case round =>
      obtain ⟨j, hj, rfl, ho, hb, hall, hord⟩ := hrel
      have HX := Lib.hid (And.intro hj (And.intro ho (And.intro hb (And.intro hall hord))))
      have hsz := hb.size
      clear hj ho hb hall hord
      by_cases hlt : j < n
      · obtain ⟨f, hf⟩ : ∃ f, l[j]? = some f := ⟨_, List.getElem?_eq_getElem (by have := H.out.2.1; omega)⟩
        obtain ⟨okf, ad, hA, hblk, x0, x1, x2, x3, x4, x5⟩ := ChdsIn.at_ H.out.1 hf
        subst hA
        have hup : ∀ w1 : World, Below w.heap.size w w1 → ∀ (a : Addr) (u : Value), a.block < w.heap.size → w.cell? a = some u → w1.cell? a = some u := fun w1 hb a u h1 h2 => (World.cell?_of_block (hb.block _ h1)).trans h2
        have HU := Lib.hid hup
        have p0 := hup wr HX.out.2.2.1 _ _ hblk x0
        have p1 := hup wr HX.out.2.2.1 ⟨(ad.add (j * 6)).block, (ad.add (j * 6)).off + 1, none⟩ _ hblk x1
        have p2 := hup wr HX.out.2.2.1 ⟨(ad.add (j * 6)).block, (ad.add (j * 6)).off + 2, none⟩ _ hblk x2
        have p3 := hup wr HX.out.2.2.1 ⟨(ad.add (j * 6)).block, (ad.add (j * 6)).off + 3, none⟩ _ hblk x3
        have hjn : (j : Int) < (n : Int) := by omega
        have HPK := fun w => dPutKey_any w f.key okf
        have HV := Lib.hid (And.intro hf (And.intro okf (And.intro x0 (And.intro x1 (And.intro x2 (And.intro x3 (And.intro x4 x5)))))))
        clear x0 x1 x2 x3 x4 x5 hup hf okf
        have hbadf : ¬ fitC f → r = ([], 2) := fun hb => HBAD.out fun ho => hb (ho.2.2.1 f (List.mem_of_getElem? HV.out.1))
        have hbado : ¬ stepC l j f → r = ([], 2) := fun hb => HBAD.out fun ho => hb ((chain_iff l).1 ho.2.2.2 j f HV.out.1)
        have HBF := Lib.hid (And.intro hbadf hbado)
        clear hbadf hbado
        obtain ⟨⟨fi, fa, fs, fc⟩, fb, fp⟩ := f
        unfold Ky.val at HPK
        dsimp only at p0 p1 p2 p3 HPK HV HBF
        have hcase : (¬ mayK ⟨fi, fa, fs, fc⟩) ∨ (mayK ⟨fi, fa, fs, fc⟩ ∧ fb < 0) ∨ (mayK ⟨fi, fa, fs, fc⟩ ∧ 255 < fb) ∨ (mayK ⟨fi, fa, fs, fc⟩ ∧ 0 ≤ fb ∧ fb ≤ 255 ∧ fp < 0) ∨ (mayK ⟨fi, fa, fs, fc⟩ ∧ 0 ≤ fb ∧ fb ≤ 255 ∧ 255 < fp) ∨ (mayK ⟨fi, fa, fs, fc⟩ ∧ 0 ≤ fb ∧ fb ≤ 255 ∧ 0 ≤ fp ∧ fp ≤ 255 ∧ stepC l j ⟨⟨fi, fa, fs, fc⟩, fb, fp⟩) ∨ (mayK ⟨fi, fa, fs, fc⟩ ∧ 0 ≤ fb ∧ fb ≤ 255 ∧ 0 ≤ fp ∧ fp ≤ 255 ∧ ¬ stepC l j ⟨⟨fi, fa, fs, fc⟩, fb, fp⟩) := by
          by_cases hm : mayK ⟨fi, fa, fs, fc⟩
          · by_cases c1 : fb < 0
            · exact .inr (.inl ⟨hm, c1⟩)
            · by_cases c2 : 255 < fb
              · exact .inr (.inr (.inl ⟨hm, c2⟩))
              · by_cases c3 : fp < 0
                · exact .inr (.inr (.inr (.inl ⟨hm, by omega, by omega, c3⟩)))
                · by_cases c4 : 255 < fp
                  · exact .inr (.inr (.inr (.inr (.inl ⟨hm, by omega, by omega, c4⟩))))
                  · by_cases c5 : stepC l j ⟨⟨fi, fa, fs, fc⟩, fb, fp⟩
                    · exact .inr (.inr (.inr (.inr (.inr (.inl ⟨hm, by omega, by omega, by omega, by omega, c5⟩)))))
                    · exact .inr (.inr (.inr (.inr (.inr (.inr ⟨hm, by omega, by omega, by omega, by omega, c5⟩)))))
          · exact .inl hm
        rcases hcase with hm | ⟨hm, c1⟩ | ⟨hm, c1⟩ | ⟨hm, c1, c2, c3⟩ | ⟨hm, c1, c2, c3⟩ | ⟨hm, hl1, hl2, hl3, hl4, hos⟩ | ⟨hm, hl1, hl2, hl3, hl4, hos⟩
        · have hpk := HPK
          rw [show putKeyS ⟨fi, fa, fs, fc⟩ = ([], 2) from if_neg hm] at hpk
          have HP := Lib.hid hpk
          have HF := Lib.hid (HBF.out.1 fun h => hm h.1)
          clear hm hpk HPK
          go_wp2_with fail
          refine (HP.out _).mono ?_
          rintro e w2 ⟨v2, rfl, ho2, hb2⟩
          obtain ⟨A2, d2', rfl, hrv2, _, _, _⟩ := ho2.slice
          have H2 := Lib.hid (And.intro (below_then HX.out.2.2.1 HX.out.2.2.1.size hb2) (And.intro ho2 (And.intro (HX.out.2.1.below hb2) hrv2)))
          have hsg := hb2.size
          clear ho2 hb2 hrv2 p0 p1 p2 p3
          dsimp only
          skip
          go_wp2_with fail
          have m0 : ∀ p : InC (fun w' => Below w2.heap.size w2 w'), p.w.cell? (ad.add (j * 6)) = some (.int .i64 fi) := fun p => HU.out _ (below_then H2.out.1 H2.out.1.size p.h) (ad.add (j * 6)) _ hblk HV.out.2.2.1
          have m1 : ∀ p : InC (fun w' => Below w2.heap.size w2 w'), p.w.cell? ⟨(ad.add (j * 6)).block, (ad.add (j * 6)).off + 1, none⟩ = some (.int .u8 (fa.toNat : Int)) := fun p => HU.out _ (below_then H2.out.1 H2.out.1.size p.h) ⟨(ad.add (j * 6)).block, (ad.add (j * 6)).off + 1, none⟩ _ hblk HV.out.2.2.2.1
          have m2 : ∀ p : InC (fun w' => Below w2.heap.size w2 w'), p.w.cell? ⟨(ad.add (j * 6)).block, (ad.add (j * 6)).off + 2, none⟩ = some (.string fs) := fun p => HU.out _ (below_then H2.out.1 H2.out.1.size p.h) ⟨(ad.add (j * 6)).block, (ad.add (j * 6)).off + 2, none⟩ _ hblk HV.out.2.2.2.2.1
          have m3 : ∀ p : InC (fun w' => Below w2.heap.size w2 w'), p.w.cell? ⟨(ad.add (j * 6)).block, (ad.add (j * 6)).off + 3, none⟩ = some (.int .i64 fc) := fun p => HU.out _ (below_then H2.out.1 H2.out.1.size p.h) ⟨(ad.add (j * 6)).block, (ad.add (j * 6)).off + 3, none⟩ _ hblk HV.out.2.2.2.2.2.1
          have m4 : ∀ p : InC (fun w' => Below w2.heap.size w2 w'), p.w.cell? ⟨(ad.add (j * 6)).block, (ad.add (j * 6)).off + 4, none⟩ = some (.int .i64 fb) := fun p => HU.out _ (below_then H2.out.1 H2.out.1.size p.h) ⟨(ad.add (j * 6)).block, (ad.add (j * 6)).off + 4, none⟩ _ hblk HV.out.2.2.2.2.2.2.1
          have m5 : ∀ p : InC (fun w' => Below w2.heap.size w2 w'), p.w.cell? ⟨(ad.add (j * 6)).block, (ad.add (j * 6)).off + 5, none⟩ = some (.int .i64 fp) := fun p => HU.out _ (below_then H2.out.1 H2.out.1.size p.h) ⟨(ad.add (j * 6)).block, (ad.add (j * 6)).off + 5, none⟩ _ hblk HV.out.2.2.2.2.2.2.2
          have hinh : Nonempty (InC (fun w' => Below w2.heap.size w2 w')) := ⟨⟨w2, Below.refl _ _⟩⟩
          refine wp_region_class (fun w' => Below w2.heap.size w2 w') (by kernel_rfl) (by kernel_rfl) (Below.refl _ _).drew ?_
          repeat (go_big_quiet_step (fail))
          refine wpQuiet_nil ?_
          rintro _ ⟨p4', rfl⟩
          clear hinh m0 m1 m2 m3 m4 m5
          have hb4 := p4'.h
          have hs4 := hb4.size
          generalize p4'.w = w4 at hb4 hs4 ⊢
          have HM4 := Lib.hid (And.intro (below_then H2.out.1 H2.out.1.size hb4) hb4)
          clear hb4
          go_wp2_with fail
          go_ret2
          rw [HF.out]
          exact ⟨_, rfl, OwnB.nil _ _ _, HM4.out.1⟩
        · have hkb := (keyB_length hm).2
          have hpk := HPK
          rw [show putKeyS ⟨fi, fa, fs, fc⟩ = (keyB ⟨fi, fa, fs, fc⟩, 0) from if_pos hm] at hpk
          have HP := Lib.hid hpk
          clear hpk HPK
          have HF := Lib.hid (HBF.out.1 fun h => by have := h.2.1.1; dsimp only at this; omega)
          clear hm
          have t4 : decide (fb < 0) = true := decide_eq_true (by omega)
          go_wp2_with fail
          refine (HP.out _).mono ?_
          rintro e w2 ⟨v2, rfl, ho2, hb2⟩
          obtain ⟨A2, d2', rfl, hrv2, _, _, _⟩ := ho2.slice
          have H2 := Lib.hid (And.intro (below_then HX.out.2.2.1 HX.out.2.2.1.size hb2) (And.intro ho2 (And.intro (HX.out.2.1.below hb2) hrv2)))
          have hsg := hb2.size
          clear ho2 hb2 hrv2 p0 p1 p2 p3
          dsimp only
          skip
          go_wp2_with fail
          have m0 : ∀ p : InC (fun w' => Below w2.heap.size w2 w'), p.w.cell? (ad.add (j * 6)) = some (.int .i64 fi) := fun p => HU.out _ (below_then H2.out.1 H2.out.1.size p.h) (ad.add (j * 6)) _ hblk HV.out.2.2.1
          have m1 : ∀ p : InC (fun w' => Below w2.heap.size w2 w'), p.w.cell? ⟨(ad.add (j * 6)).block, (ad.add (j * 6)).off + 1, none⟩ = some (.int .u8 (fa.toNat : Int)) := fun p => HU.out _ (below_then H2.out.1 H2.out.1.size p.h) ⟨(ad.add (j * 6)).block, (ad.add (j * 6)).off + 1, none⟩ _ hblk HV.out.2.2.2.1
          have m2 : ∀ p : InC (fun w' => Below w2.heap.size w2 w'), p.w.cell? ⟨(ad.add (j * 6)).block, (ad.add (j * 6)).off + 2, none⟩ = some (.string fs) := fun p => HU.out _ (below_then H2.out.1 H2.out.1.size p.h) ⟨(ad.add (j * 6)).block, (ad.add (j * 6)).off + 2, none⟩ _ hblk HV.out.2.2.2.2.1
          have m3 : ∀ p : InC (fun w' => Below w2.heap.size w2 w'), p.w.cell? ⟨(ad.add (j * 6)).block, (ad.add (j * 6)).off + 3, none⟩ = some (.int .i64 fc) := fun p => HU.out _ (below_then H2.out.1 H2.out.1.size p.h) ⟨(ad.add (j * 6)).block, (ad.add (j * 6)).off + 3, none⟩ _ hblk HV.out.2.2.2.2.2.1
          have m4 : ∀ p : InC (fun w' => Below w2.heap.size w2 w'), p.w.cell? ⟨(ad.add (j * 6)).block, (ad.add (j * 6)).off + 4, none⟩ = some (.int .i64 fb) := fun p => HU.out _ (below_then H2.out.1 H2.out.1.size p.h) ⟨(ad.add (j * 6)).block, (ad.add (j * 6)).off + 4, none⟩ _ hblk HV.out.2.2.2.2.2.2.1
          have m5 : ∀ p : InC (fun w' => Below w2.heap.size w2 w'), p.w.cell? ⟨(ad.add (j * 6)).block, (ad.add (j * 6)).off + 5, none⟩ = some (.int .i64 fp) := fun p => HU.out _ (below_then H2.out.1 H2.out.1.size p.h) ⟨(ad.add (j * 6)).block, (ad.add (j * 6)).off + 5, none⟩ _ hblk HV.out.2.2.2.2.2.2.2
          have hinh : Nonempty (InC (fun w' => Below w2.heap.size w2 w')) := ⟨⟨w2, Below.refl _ _⟩⟩
          refine wp_region_class (fun w' => Below w2.heap.size w2 w') (by kernel_rfl) (by kernel_rfl) (Below.refl _ _).drew ?_
          repeat (go_big_quiet_step (fail))
          refine wpQuiet_nil ?_
          rintro _ ⟨p4', rfl⟩
          clear hinh m0 m1 m2 m3 m4 m5
          have hb4 := p4'.h
          have hs4 := hb4.size
          generalize p4'.w = w4 at hb4 hs4 ⊢
          have HM4 := Lib.hid (And.intro (below_then H2.out.1 H2.out.1.size hb4) hb4)
          clear hb4
          go_wp2_with fail
          go_ret2
          rw [HF.out]
          exact ⟨_, rfl, OwnB.nil _ _ _, HM4.out.1⟩
        · have hkb := (keyB_length hm).2
          have hpk := HPK
          rw [show putKeyS ⟨fi, fa, fs, fc⟩ = (keyB ⟨fi, fa, fs, fc⟩, 0) from if_pos hm] at hpk
          have HP := Lib.hid hpk
          clear hpk HPK
          have HF := Lib.hid (HBF.out.1 fun h => by have := h.2.1.2; dsimp only at this; omega)
          clear hm
          have t4 : decide (fb < 0) = false := decide_eq_false (by omega)
          have t5 : decide (255 < fb) = true := decide_eq_true (by omega)
          go_wp2_with fail
          refine (HP.out _).mono ?_
          rintro e w2 ⟨v2, rfl, ho2, hb2⟩
          obtain ⟨A2, d2', rfl, hrv2, _, _, _⟩ := ho2.slice
          have H2 := Lib.hid (And.intro (below_then HX.out.2.2.1 HX.out.2.2.1.size hb2) (And.intro ho2 (And.intro (HX.out.2.1.below hb2) hrv2)))
          have hsg := hb2.size
          clear ho2 hb2 hrv2 p0 p1 p2 p3
          dsimp only
          skip
          go_wp2_with fail
          have m0 : ∀ p : InC (fun w' => Below w2.heap.size w2 w'), p.w.cell? (ad.add (j * 6)) = some (.int .i64 fi) := fun p => HU.out _ (below_then H2.out.1 H2.out.1.size p.h) (ad.add (j * 6)) _ hblk HV.out.2.2.1
          have m1 : ∀ p : InC (fun w' => Below w2.heap.size w2 w'), p.w.cell? ⟨(ad.add (j * 6)).block, (ad.add (j * 6)).off + 1, none⟩ = some (.int .u8 (fa.toNat : Int)) := fun p => HU.out _ (below_then H2.out.1 H2.out.1.size p.h) ⟨(ad.add (j * 6)).block, (ad.add (j * 6)).off + 1, none⟩ _ hblk HV.out.2.2.2.1
          have m2 : ∀ p : InC (fun w' => Below w2.heap.size w2 w'), p.w.cell? ⟨(ad.add (j * 6)).block, (ad.add (j * 6)).off + 2, none⟩ = some (.string fs) := fun p => HU.out _ (below_then H2.out.1 H2.out.1.size p.h) ⟨(ad.add (j * 6)).block, (ad.add (j * 6)).off + 2, none⟩ _ hblk HV.out.2.2.2.2.1
          have m3 : ∀ p : InC (fun w' => Below w2.heap.size w2 w'), p.w.cell? ⟨(ad.add (j * 6)).block, (ad.add (j * 6)).off + 3, none⟩ = some (.int .i64 fc) := fun p => HU.out _ (below_then H2.out.1 H2.out.1.size p.h) ⟨(ad.add (j * 6)).block, (ad.add (j * 6)).off + 3, none⟩ _ hblk HV.out.2.2.2.2.2.1
          have m4 : ∀ p : InC (fun w' => Below w2.heap.size w2 w'), p.w.cell? ⟨(ad.add (j * 6)).block, (ad.add (j * 6)).off + 4, none⟩ = some (.int .i64 fb) := fun p => HU.out _ (below_then H2.out.1 H2.out.1.size p.h) ⟨(ad.add (j * 6)).block, (ad.add (j * 6)).off + 4, none⟩ _ hblk HV.out.2.2.2.2.2.2.1
          have m5 : ∀ p : InC (fun w' => Below w2.heap.size w2 w'), p.w.cell? ⟨(ad.add (j * 6)).block, (ad.add (j * 6)).off + 5, none⟩ = some (.int .i64 fp) := fun p => HU.out _ (below_then H2.out.1 H2.out.1.size p.h) ⟨(ad.add (j * 6)).block, (ad.add (j * 6)).off + 5, none⟩ _ hblk HV.out.2.2.2.2.2.2.2
          have hinh : Nonempty (InC (fun w' => Below w2.heap.size w2 w')) := ⟨⟨w2, Below.refl _ _⟩⟩
          refine wp_region_class (fun w' => Below w2.heap.size w2 w') (by kernel_rfl) (by kernel_rfl) (Below.refl _ _).drew ?_
          repeat (go_big_quiet_step (fail))
          refine wpQuiet_nil ?_
          rintro _ ⟨p4', rfl⟩
          clear hinh m0 m1 m2 m3 m4 m5
          have hb4 := p4'.h
          have hs4 := hb4.size
          generalize p4'.w = w4 at hb4 hs4 ⊢
          have HM4 := Lib.hid (And.intro (below_then H2.out.1 H2.out.1.size hb4) hb4)
          clear hb4
          go_wp2_with fail
          go_ret2
          rw [HF.out]
          exact ⟨_, rfl, OwnB.nil _ _ _, HM4.out.1⟩
        · have hkb := (keyB_length hm).2
          have hpk := HPK
          rw [show putKeyS ⟨fi, fa, fs, fc⟩ = (keyB ⟨fi, fa, fs, fc⟩, 0) from if_pos hm] at hpk
          have HP := Lib.hid hpk
          clear hpk HPK
          have HF := Lib.hid (HBF.out.1 fun h => by have := h.2.2.1; dsimp only at this; omega)
          clear hm
          have t4 : decide (fb < 0) = false := decide_eq_false (by omega)
          have t5 : decide (255 < fb) = false := decide_eq_false (by omega)
          have t6 : decide (fp < 0) = true := decide_eq_true (by omega)
          go_wp2_with fail
          refine (HP.out _).mono ?_
          rintro e w2 ⟨v2, rfl, ho2, hb2⟩
          obtain ⟨A2, d2', rfl, hrv2, _, _, _⟩ := ho2.slice
          have H2 := Lib.hid (And.intro (below_then HX.out.2.2.1 HX.out.2.2.1.size hb2) (And.intro ho2 (And.intro (HX.out.2.1.below hb2) hrv2)))
          have hsg := hb2.size
          clear ho2 hb2 hrv2 p0 p1 p2 p3
          dsimp only
          skip
          go_wp2_with fail
          have m0 : ∀ p : InC (fun w' => Below w2.heap.size w2 w'), p.w.cell? (ad.add (j * 6)) = some (.int .i64 fi) := fun p => HU.out _ (below_then H2.out.1 H2.out.1.size p.h) (ad.add (j * 6)) _ hblk HV.out.2.2.1
          have m1 : ∀ p : InC (fun w' => Below w2.heap.size w2 w'), p.w.cell? ⟨(ad.add (j * 6)).block, (ad.add (j * 6)).off + 1, none⟩ = some (.int .u8 (fa.toNat : Int)) := fun p => HU.out _ (below_then H2.out.1 H2.out.1.size p.h) ⟨(ad.add (j * 6)).block, (ad.add (j * 6)).off + 1, none⟩ _ hblk HV.out.2.2.2.1
          have m2 : ∀ p : InC (fun w' => Below w2.heap.size w2 w'), p.w.cell? ⟨(ad.add (j * 6)).block, (ad.add (j * 6)).off + 2, none⟩ = some (.string fs) := fun p => HU.out _ (below_then H2.out.1 H2.out.1.size p.h) ⟨(ad.add (j * 6)).block, (ad.add (j * 6)).off + 2, none⟩ _ hblk HV.out.2.2.2.2.1
          have m3 : ∀ p : InC (fun w' => Below w2.heap.size w2 w'), p.w.cell? ⟨(ad.add (j * 6)).block, (ad.add (j * 6)).off + 3, none⟩ = some (.int .i64 fc) := fun p => HU.out _ (below_then H2.out.1 H2.out.1.size p.h) ⟨(ad.add (j * 6)).block, (ad.add (j * 6)).off + 3, none⟩ _ hblk HV.out.2.2.2.2.2.1
          have m4 : ∀ p : InC (fun w' => Below w2.heap.size w2 w'), p.w.cell? ⟨(ad.add (j * 6)).block, (ad.add (j * 6)).off + 4, none⟩ = some (.int .i64 fb) := fun p => HU.out _ (below_then H2.out.1 H2.out.1.size p.h) ⟨(ad.add (j * 6)).block, (ad.add (j * 6)).off + 4, none⟩ _ hblk HV.out.2.2.2.2.2.2.1
          have m5 : ∀ p : InC (fun w' => Below w2.heap.size w2 w'), p.w.cell? ⟨(ad.add (j * 6)).block, (ad.add (j * 6)).off + 5, none⟩ = some (.int .i64 fp) := fun p => HU.out _ (below_then H2.out.1 H2.out.1.size p.h) ⟨(ad.add (j * 6)).block, (ad.add (j * 6)).off + 5, none⟩ _ hblk HV.out.2.2.2.2.2.2.2
          have hinh : Nonempty (InC (fun w' => Below w2.heap.size w2 w')) := ⟨⟨w2, Below.refl _ _⟩⟩
          refine wp_region_class (fun w' => Below w2.heap.size w2 w') (by kernel_rfl) (by kernel_rfl) (Below.refl _ _).drew ?_
          repeat (go_big_quiet_step (fail))
          refine wpQuiet_nil ?_
          rintro _ ⟨p4', rfl⟩
          clear hinh m0 m1 m2 m3 m4 m5
          have hb4 := p4'.h
          have hs4 := hb4.size
          generalize p4'.w = w4 at hb4 hs4 ⊢
          have HM4 := Lib.hid (And.intro (below_then H2.out.1 H2.out.1.size hb4) hb4)
          clear hb4
          go_wp2_with fail
          go_ret2
          rw [HF.out]
          exact ⟨_, rfl, OwnB.nil _ _ _, HM4.out.1⟩
        · have hkb := (keyB_length hm).2
          have hpk := HPK
          rw [show putKeyS ⟨fi, fa, fs, fc⟩ = (keyB ⟨fi, fa, fs, fc⟩, 0) from if_pos hm] at hpk
          have HP := Lib.hid hpk
          clear hpk HPK
          have HF := Lib.hid (HBF.out.1 fun h => by have := h.2.2.2; dsimp only at this; omega)
          clear hm
          have t4 : decide (fb < 0) = false := decide_eq_false (by omega)
          have t5 : decide (255 < fb) = false := decide_eq_false (by omega)
          have t6 : decide (fp < 0) = false := decide_eq_false (by omega)
          have t7 : decide (255 < fp) = true := decide_eq_true (by omega)
          go_wp2_with fail
          refine (HP.out _).mono ?_
          rintro e w2 ⟨v2, rfl, ho2, hb2⟩
          obtain ⟨A2, d2', rfl, hrv2, _, _, _⟩ := ho2.slice
          have H2 := Lib.hid (And.intro (below_then HX.out.2.2.1 HX.out.2.2.1.size hb2) (And.intro ho2 (And.intro (HX.out.2.1.below hb2) hrv2)))
          have hsg := hb2.size
          clear ho2 hb2 hrv2 p0 p1 p2 p3
          dsimp only
          skip
          go_wp2_with fail
          have m0 : ∀ p : InC (fun w' => Below w2.heap.size w2 w'), p.w.cell? (ad.add (j * 6)) = some (.int .i64 fi) := fun p => HU.out _ (below_then H2.out.1 H2.out.1.size p.h) (ad.add (j * 6)) _ hblk HV.out.2.2.1
          have m1 : ∀ p : InC (fun w' => Below w2.heap.size w2 w'), p.w.cell? ⟨(ad.add (j * 6)).block, (ad.add (j * 6)).off + 1, none⟩ = some (.int .u8 (fa.toNat : Int)) := fun p => HU.out _ (below_then H2.out.1 H2.out.1.size p.h) ⟨(ad.add (j * 6)).block, (ad.add (j * 6)).off + 1, none⟩ _ hblk HV.out.2.2.2.1
          have m2 : ∀ p : InC (fun w' => Below w2.heap.size w2 w'), p.w.cell? ⟨(ad.add (j * 6)).block, (ad.add (j * 6)).off + 2, none⟩ = some (.string fs) := fun p => HU.out _ (below_then H2.out.1 H2.out.1.size p.h) ⟨(ad.add (j * 6)).block, (ad.add (j * 6)).off + 2, none⟩ _ hblk HV.out.2.2.2.2.1
          have m3 : ∀ p : InC (fun w' => Below w2.heap.size w2 w'), p.w.cell? ⟨(ad.add (j * 6)).block, (ad.add (j * 6)).off + 3, none⟩ = some (.int .i64 fc) := fun p => HU.out _ (below_then H2.out.1 H2.out.1.size p.h) ⟨(ad.add (j * 6)).block, (ad.add (j * 6)).off + 3, none⟩ _ hblk HV.out.2.2.2.2.2.1
          have m4 : ∀ p : InC (fun w' => Below w2.heap.size w2 w'), p.w.cell? ⟨(ad.add (j * 6)).block, (ad.add (j * 6)).off + 4, none⟩ = some (.int .i64 fb) := fun p => HU.out _ (below_then H2.out.1 H2.out.1.size p.h) ⟨(ad.add (j * 6)).block, (ad.add (j * 6)).off + 4, none⟩ _ hblk HV.out.2.2.2.2.2.2.1
          have m5 : ∀ p : InC (fun w' => Below w2.heap.size w2 w'), p.w.cell? ⟨(ad.add (j * 6)).block, (ad.add (j * 6)).off + 5, none⟩ = some (.int .i64 fp) := fun p => HU.out _ (below_then H2.out.1 H2.out.1.size p.h) ⟨(ad.add (j * 6)).block, (ad.add (j * 6)).off + 5, none⟩ _ hblk HV.out.2.2.2.2.2.2.2
          have hinh : Nonempty (InC (fun w' => Below w2.heap.size w2 w')) := ⟨⟨w2, Below.refl _ _⟩⟩
          refine wp_region_class (fun w' => Below w2.heap.size w2 w') (by kernel_rfl) (by kernel_rfl) (Below.refl _ _).drew ?_
          repeat (go_big_quiet_step (fail))
          refine wpQuiet_nil ?_
          rintro _ ⟨p4', rfl⟩
          clear hinh m0 m1 m2 m3 m4 m5
          have hb4 := p4'.h
          have hs4 := hb4.size
          generalize p4'.w = w4 at hb4 hs4 ⊢
          have HM4 := Lib.hid (And.intro (below_then H2.out.1 H2.out.1.size hb4) hb4)
          clear hb4
          go_wp2_with fail
          go_ret2
          rw [HF.out]
          exact ⟨_, rfl, OwnB.nil _ _ _, HM4.out.1⟩
        · rcases Nat.eq_zero_or_pos j with hj0 | hj0
          · have hkb := (keyB_length hm).2
            have hpk := HPK
            rw [show putKeyS ⟨fi, fa, fs, fc⟩ = (keyB ⟨fi, fa, fs, fc⟩, 0) from if_pos hm] at hpk
            have HP := Lib.hid hpk
            clear hpk HPK
            have t4 : decide (fb < 0) = false := decide_eq_false (by omega)
            have t5 : decide (255 < fb) = false := decide_eq_false (by omega)
            have t6 : decide (fp < 0) = false := decide_eq_false (by omega)
            have t7 : decide (255 < fp) = false := decide_eq_false (by omega)
            have q3 : decide (0 < (j : Int)) = false := decide_eq_false (by omega)
            have q4 : decide (0 < j) = false := decide_eq_false (by omega)
            have hos : stepC l j ⟨⟨fi, fa, fs, fc⟩, fb, fp⟩ := fun p h => by omega
            have HJ := Lib.hid hj0
            clear hj0
            have hfit : fitC ⟨⟨fi, fa, fs, fc⟩, fb, fp⟩ := ⟨hm, ⟨hl1, hl2⟩, hl3, hl4⟩
            have hle := flat_chd_le (l.take j) HX.out.2.2.2.1
            rw [List.length_take] at hle
            have hxl : (UInt8.ofNat n :: (l.take j).flatMap chdB).length ≤ 70000 := by rw [List.length_cons]; omega
            have hft : UInt8.ofNat n :: (l.take (j + 1)).flatMap chdB = (UInt8.ofNat n :: (l.take j).flatMap chdB) ++ chdB ⟨⟨fi, fa, fs, fc⟩, fb, fp⟩ := by
              rw [List.take_add_one, HV.out.1, List.flatMap_append]
              simp
            have hal : ∀ x ∈ l.take (j + 1), fitC x := by
              intro x hx
              rw [List.take_add_one, HV.out.1] at hx
              rcases List.mem_append.1 hx with hx | hx
              · exact HX.out.2.2.2.1 x hx
              · simp at hx
                rw [hx]
                exact hfit
            have hor : ∀ i f, i < j + 1 → l[i]? = some f → stepC l i f := by
              intro i f hi hf
              rcases Nat.lt_or_ge i j with h | h
              · exact HX.out.2.2.2.2 i f h hf
              · obtain rfl : i = j := by omega
                rw [HV.out.1] at hf
                cases hf
                exact hos
            have hown := HX.out.2.1
            generalize UInt8.ofNat n :: (l.take j).flatMap chdB = Y at hxl hft hown
            generalize hkb' : keyB ⟨fi, fa, fs, fc⟩ = kb at HP hkb
            obtain ⟨qk, hqk⟩ : ∃ q, kb.length = q := ⟨_, rfl⟩
            rw [hqk] at hkb
            have HN := Lib.hid (And.intro hft (And.intro hal (And.intro hor (And.intro hown (And.intro hkb' hqk)))))
            have hLb : chdB ⟨⟨fi, fa, fs, fc⟩, fb, fp⟩ = kb ++ [UInt8.ofNat fb.toNat, UInt8.ofNat fp.toNat] := by
              show keyB ⟨fi, fa, fs, fc⟩ ++ _ = _
              rw [hkb']
            have HLB := Lib.hid (And.intro hLb (And.intro (byte_back ⟨hl1, hl2⟩) (byte_back ⟨hl3, hl4⟩)))
            have hw1 : IntKind.u8.wrap fb = fb := IntWalk.u8_in _ ⟨hl1, hl2⟩
            have hw2 : IntKind.u8.wrap fp = fp := IntWalk.u8_in _ ⟨hl3, hl4⟩
            clear hm hfit hle hft hal hor hown hkb' hqk hLb hos
            go_wp2_with fail
            refine (HP.out _).mono ?_
            rintro e w2 ⟨v2, rfl, ho2, hb2⟩
            obtain ⟨A2, d2', rfl, hrv2, _, _, _⟩ := ho2.slice
            have H2 := Lib.hid (And.intro (below_then HX.out.2.2.1 HX.out.2.2.1.size hb2) (And.intro ho2 (And.intro (HN.out.2.2.2.1.below hb2) hrv2)))
            have hsg := hb2.size
            clear ho2 hb2 hrv2 p0 p1 p2 p3
            dsimp only
            rw [HN.out.2.2.2.2.2]
            go_wp2_with fail
            have m0 : ∀ p : InC (fun w' => Below w2.heap.size w2 w'), p.w.cell? (ad.add (j * 6)) = some (.int .i64 fi) := fun p => HU.out _ (below_then H2.out.1 H2.out.1.size p.h) (ad.add (j * 6)) _ hblk HV.out.2.2.1
            have m1 : ∀ p : InC (fun w' => Below w2.heap.size w2 w'), p.w.cell? ⟨(ad.add (j * 6)).block, (ad.add (j * 6)).off + 1, none⟩ = some (.int .u8 (fa.toNat : Int)) := fun p => HU.out _ (below_then H2.out.1 H2.out.1.size p.h) ⟨(ad.add (j * 6)).block, (ad.add (j * 6)).off + 1, none⟩ _ hblk HV.out.2.2.2.1
            have m2 : ∀ p : InC (fun w' => Below w2.heap.size w2 w'), p.w.cell? ⟨(ad.add (j * 6)).block, (ad.add (j * 6)).off + 2, none⟩ = some (.string fs) := fun p => HU.out _ (below_then H2.out.1 H2.out.1.size p.h) ⟨(ad.add (j * 6)).block, (ad.add (j * 6)).off + 2, none⟩ _ hblk HV.out.2.2.2.2.1
            have m3 : ∀ p : InC (fun w' => Below w2.heap.size w2 w'), p.w.cell? ⟨(ad.add (j * 6)).block, (ad.add (j * 6)).off + 3, none⟩ = some (.int .i64 fc) := fun p => HU.out _ (below_then H2.out.1 H2.out.1.size p.h) ⟨(ad.add (j * 6)).block, (ad.add (j * 6)).off + 3, none⟩ _ hblk HV.out.2.2.2.2.2.1
            have m4 : ∀ p : InC (fun w' => Below w2.heap.size w2 w'), p.w.cell? ⟨(ad.add (j * 6)).block, (ad.add (j * 6)).off + 4, none⟩ = some (.int .i64 fb) := fun p => HU.out _ (below_then H2.out.1 H2.out.1.size p.h) ⟨(ad.add (j * 6)).block, (ad.add (j * 6)).off + 4, none⟩ _ hblk HV.out.2.2.2.2.2.2.1
            have m5 : ∀ p : InC (fun w' => Below w2.heap.size w2 w'), p.w.cell? ⟨(ad.add (j * 6)).block, (ad.add (j * 6)).off + 5, none⟩ = some (.int .i64 fp) := fun p => HU.out _ (below_then H2.out.1 H2.out.1.size p.h) ⟨(ad.add (j * 6)).block, (ad.add (j * 6)).off + 5, none⟩ _ hblk HV.out.2.2.2.2.2.2.2
            have hinh : Nonempty (InC (fun w' => Below w2.heap.size w2 w')) := ⟨⟨w2, Below.refl _ _⟩⟩
            refine wp_region_class (fun w' => Below w2.heap.size w2 w') (by kernel_rfl) (by kernel_rfl) (Below.refl _ _).drew ?_
            repeat (go_big_quiet_step (fail))
            refine wpQuiet_nil ?_
            rintro _ ⟨p4', rfl⟩
            clear hinh m0 m1 m2 m3 m4 m5
            have hb4 := p4'.h
            have hs4 := hb4.size
            generalize p4'.w = w4 at hb4 hs4 ⊢
            have HM4 := Lib.hid (And.intro (below_then H2.out.1 H2.out.1.size hb4) hb4)
            clear hb4
            have ho4 := H2.out.2.2.1.below HM4.out.2
            have hr4 := H2.out.2.2.2.below HM4.out.2
            have hbw4 : w.heap.size ≤ w4.heap.size := HM4.out.1.size
            have H4 := Lib.hid (And.intro ho4 hr4)
            clear ho4 hr4
            go_wp2_with (at_builtin; refine wpList_appB _ rfl _ _ 22 rfl w.heap.size 5 Try.underlying22 u8info u6 Y rfl H4.out.1 A2 qk d2' kb rfl HN.out.2.2.2.2.2 H4.out.2 ?_ ?_ ?_)
            · rw [HN.out.2.2.2.2.2]; omega
            · exact hbw4
            intro v6 w6 ho6 hg6 hv6
            have hb6 := HM4.out.1.grown hg6 hbw4 (fun k e => (H4.out.1.blk e).1)
            have d4 : w6.cell? ⟨(ad.add (j * 6)).block, (ad.add (j * 6)).off + 4, none⟩ = some (.int .i64 fb) := HU.out _ hb6 ⟨(ad.add (j * 6)).block, (ad.add (j * 6)).off + 4, none⟩ _ hblk HV.out.2.2.2.2.2.2.1
            have d5 : w6.cell? ⟨(ad.add (j * 6)).block, (ad.add (j * 6)).off + 5, none⟩ = some (.int .i64 fp) := HU.out _ hb6 ⟨(ad.add (j * 6)).block, (ad.add (j * 6)).off + 5, none⟩ _ hblk HV.out.2.2.2.2.2.2.2
            obtain ⟨Y1, hY1⟩ : ∃ Y1, Y ++ kb = Y1 := ⟨_, rfl⟩
            have hl1' : Y1.length = Y.length + qk := by rw [← hY1, List.length_append, HN.out.2.2.2.2.2]
            rw [hY1] at ho6
            have HY1 := Lib.hid (And.intro hY1 hl1')
            have hs6 := hg6.size
            have H6 := Lib.hid (And.intro ho6 hb6)
            clear hY1 hl1' ho6 hb6 hg6 hv6
            have hlit : RV (w6.drew.alloc (.cells #[.int .u8 fb, .int .u8 fp] 5)) (some ⟨w6.heap.size, 0, none⟩) (bv [UInt8.ofNat fb.toNat, UInt8.ofNat fp.toNat]) := by
              have h := (RowB.new w6.drew 5 [UInt8.ofNat fb.toNat, UInt8.ofNat fp.toNat]).rv
              simp only [bv, List.map_cons, List.map_nil, HLB.out.2.1, HLB.out.2.2] at h ⊢
              exact h
            have hbl : Below w6.heap.size w6 (w6.drew.alloc (.cells #[.int .u8 fb, .int .u8 fp] 5)) := ((Below.refl w6.heap.size w6).drew).alloc (Nat.le_refl _) _
            have hbw7 := below_then H6.out.2 H6.out.2.size hbl
            have hsz1 : Y1.length + [UInt8.ofNat fb.toNat, UInt8.ofNat fp.toNat].length ≤ 140737488355328 := by rw [HY1.out.2]; simp; omega
            have PC : ∀ (v8 : Value) (w8 : World), OwnB 5 w8 w.heap.size v8 (Y1 ++ [UInt8.ofNat fb.toNat, UInt8.ofNat fp.toNat]) → (w6.drew.alloc (.cells #[.int .u8 fb, .int .u8 fp] 5)).grownBy w8 v6.ownBlock →
                (w8.cell? ⟨(ad.add (j * 6)).block, (ad.add (j * 6)).off + 4, none⟩ = some (.int .i64 fb) ∧ w8.cell? ⟨(ad.add (j * 6)).block, (ad.add (j * 6)).off + 5, none⟩ = some (.int .i64 fp)) ∧ Hid (OwnB 5 w8 w.heap.size v8 (UInt8.ofNat n :: (l.take (j + 1)).flatMap chdB) ∧ Below w.heap.size w w8) := fun v8 w8 ho8 hg8 => by
              have hb8 := hbw7.grown hg8 hbw7.size (fun k e => (H6.out.1.blk e).1)
              refine ⟨⟨HU.out _ hb8 ⟨(ad.add (j * 6)).block, (ad.add (j * 6)).off + 4, none⟩ _ hblk HV.out.2.2.2.2.2.2.1, HU.out _ hb8 ⟨(ad.add (j * 6)).block, (ad.add (j * 6)).off + 5, none⟩ _ hblk HV.out.2.2.2.2.2.2.2⟩, And.intro ?_ hb8⟩
              have heq : Y1 ++ [UInt8.ofNat fb.toNat, UInt8.ofNat fp.toNat] = UInt8.ofNat n :: (l.take (j + 1)).flatMap chdB := by
                rw [HN.out.1, HLB.out.1, ← HY1.out.1]
                simp
              rw [← heq]
              exact ho8
            have H7 := Lib.hid (And.intro (H6.out.1.below hbl) (And.intro hlit (And.intro hsz1 (And.intro hbw7.size PC))))
            clear hlit hbl hbw7 hsz1 PC
            go_wp2_with fail
            go_region_held3 (fun w' => w'.cell? ⟨(ad.add (j * 6)).block, (ad.add (j * 6)).off + 4, none⟩ = some (.int .i64 fb) ∧ w'.cell? ⟨(ad.add (j * 6)).block, (ad.add (j * 6)).off + 5, none⟩ = some (.int .i64 fp))
              (first | exact ⟨d4, d5⟩ | exact ⟨Lib.cell?_alloc_some _ d4, Lib.cell?_alloc_some _ d5⟩ | exact hq')
              (first
                | (refine step_appB _ rfl (.tmp 93) (.tmp 106) 22 rfl w.heap.size 5 Try.underlying22 u8info v6 Y1 (by simp [Act.eval, Act.put]) H7.out.1 (some ⟨w6.heap.size, 0, none⟩) 2 2 [UInt8.ofNat fb.toNat, UInt8.ofNat fp.toNat] (by simp [Act.eval, Act.put]) rfl H7.out.2.1 H7.out.2.2.1 H7.out.2.2.2.1 ?_; intro v8 w8 ho8 hg8 hv8; obtain ⟨hq', H8⟩ := H7.out.2.2.2.2 v8 w8 ho8 hg8; clear ho8 hg8 hv8))
            all_goals
              go_wp2_with fail
              go_roundg (n - (j + 1))
              case measure => have := HX.out.1; omega
              case rel => exact ⟨j + 1, by have := HX.out.1; omega, by go_num, H8.out.1, H8.out.2, HN.out.2.1, HN.out.2.2.1⟩
          · have hkb := (keyB_length hm).2
            have hpk := HPK
            rw [show putKeyS ⟨fi, fa, fs, fc⟩ = (keyB ⟨fi, fa, fs, fc⟩, 0) from if_pos hm] at hpk
            have HP := Lib.hid hpk
            clear hpk HPK
            have t4 : decide (fb < 0) = false := decide_eq_false (by omega)
            have t5 : decide (255 < fb) = false := decide_eq_false (by omega)
            have t6 : decide (fp < 0) = false := decide_eq_false (by omega)
            have t7 : decide (255 < fp) = false := decide_eq_false (by omega)
            have q3 : decide (0 < (j : Int)) = true := decide_eq_true (by omega)
            have q4 : decide (0 < j) = true := decide_eq_true (by omega)
            obtain ⟨q, hq⟩ : ∃ q, j = q + 1 := ⟨j - 1, by omega⟩
            have hwm : IntKind.i64.wrap ((j : Int) - 1) = (q : Int) := by rw [hq]; exact (IntWalk.i64_in _ (by omega)).trans (by omega)
            have hmn : (q : Int) < (n : Int) := by omega
            obtain ⟨x, hx⟩ : ∃ x, l[q]? = some x := ⟨_, List.getElem?_eq_getElem (by have := H.out.2.1; omega)⟩
            obtain ⟨okx, ad', hA', hblk', x0, x1, x2, x3, _, _⟩ := ChdsIn.at_ H.out.1 hx
            injection hA' with hA'
            subst hA'
            have HXX := Lib.hid (And.intro hx (And.intro hblk' (And.intro x0 (And.intro x1 (And.intro x2 (And.intro x3 hq))))))
            have HKB := Lib.hid (fun w => dBefore_any w x.key ⟨fi, fa, fs, fc⟩ okx HV.out.2.1)
            clear x0 x1 x2 x3 hx hq okx
            obtain ⟨⟨xi, xa, xs, xc⟩, xb, xp⟩ := x
            dsimp only at HXX
            unfold Ky.val at HKB
            dsimp only at HKB
            have hlt' : keyLt ⟨xi, xa, xs, xc⟩ ⟨fi, fa, fs, fc⟩ := hos ⟨⟨xi, xa, xs, xc⟩, xb, xp⟩ hj0 (by rw [HXX.out.2.2.2.2.2.2, Nat.add_sub_cancel]; exact HXX.out.1)
            rw [decide_eq_true hlt'] at HKB
            clear hlt'
            have hfit : fitC ⟨⟨fi, fa, fs, fc⟩, fb, fp⟩ := ⟨hm, ⟨hl1, hl2⟩, hl3, hl4⟩
            have hle := flat_chd_le (l.take j) HX.out.2.2.2.1
            rw [List.length_take] at hle
            have hxl : (UInt8.ofNat n :: (l.take j).flatMap chdB).length ≤ 70000 := by rw [List.length_cons]; omega
            have hft : UInt8.ofNat n :: (l.take (j + 1)).flatMap chdB = (UInt8.ofNat n :: (l.take j).flatMap chdB) ++ chdB ⟨⟨fi, fa, fs, fc⟩, fb, fp⟩ := by
              rw [List.take_add_one, HV.out.1, List.flatMap_append]
              simp
            have hal : ∀ x ∈ l.take (j + 1), fitC x := by
              intro x hx
              rw [List.take_add_one, HV.out.1] at hx
              rcases List.mem_append.1 hx with hx | hx
              · exact HX.out.2.2.2.1 x hx
              · simp at hx
                rw [hx]
                exact hfit
            have hor : ∀ i f, i < j + 1 → l[i]? = some f → stepC l i f := by
              intro i f hi hf
              rcases Nat.lt_or_ge i j with h | h
              · exact HX.out.2.2.2.2 i f h hf
              · obtain rfl : i = j := by omega
                rw [HV.out.1] at hf
                cases hf
                exact hos
            have hown := HX.out.2.1
            generalize UInt8.ofNat n :: (l.take j).flatMap chdB = Y at hxl hft hown
            generalize hkb' : keyB ⟨fi, fa, fs, fc⟩ = kb at HP hkb
            obtain ⟨qk, hqk⟩ : ∃ q, kb.length = q := ⟨_, rfl⟩
            rw [hqk] at hkb
            have HN := Lib.hid (And.intro hft (And.intro hal (And.intro hor (And.intro hown (And.intro hkb' hqk)))))
            have hLb : chdB ⟨⟨fi, fa, fs, fc⟩, fb, fp⟩ = kb ++ [UInt8.ofNat fb.toNat, UInt8.ofNat fp.toNat] := by
              show keyB ⟨fi, fa, fs, fc⟩ ++ _ = _
              rw [hkb']
            have HLB := Lib.hid (And.intro hLb (And.intro (byte_back ⟨hl1, hl2⟩) (byte_back ⟨hl3, hl4⟩)))
            have hw1 : IntKind.u8.wrap fb = fb := IntWalk.u8_in _ ⟨hl1, hl2⟩
            have hw2 : IntKind.u8.wrap fp = fp := IntWalk.u8_in _ ⟨hl3, hl4⟩
            clear hm hfit hle hft hal hor hown hkb' hqk hLb hos
            go_wp2_with fail
            refine (HP.out _).mono ?_
            rintro e w2 ⟨v2, rfl, ho2, hb2⟩
            obtain ⟨A2, d2', rfl, hrv2, _, _, _⟩ := ho2.slice
            have H2 := Lib.hid (And.intro (below_then HX.out.2.2.1 HX.out.2.2.1.size hb2) (And.intro ho2 (And.intro (HN.out.2.2.2.1.below hb2) hrv2)))
            have hsg := hb2.size
            clear ho2 hb2 hrv2 p0 p1 p2 p3
            dsimp only
            rw [HN.out.2.2.2.2.2]
            go_wp2_with fail
            have m0 : ∀ p : InC (fun w' => Below w2.heap.size w2 w'), p.w.cell? (ad.add (j * 6)) = some (.int .i64 fi) := fun p => HU.out _ (below_then H2.out.1 H2.out.1.size p.h) (ad.add (j * 6)) _ hblk HV.out.2.2.1
            have m1 : ∀ p : InC (fun w' => Below w2.heap.size w2 w'), p.w.cell? ⟨(ad.add (j * 6)).block, (ad.add (j * 6)).off + 1, none⟩ = some (.int .u8 (fa.toNat : Int)) := fun p => HU.out _ (below_then H2.out.1 H2.out.1.size p.h) ⟨(ad.add (j * 6)).block, (ad.add (j * 6)).off + 1, none⟩ _ hblk HV.out.2.2.2.1
            have m2 : ∀ p : InC (fun w' => Below w2.heap.size w2 w'), p.w.cell? ⟨(ad.add (j * 6)).block, (ad.add (j * 6)).off + 2, none⟩ = some (.string fs) := fun p => HU.out _ (below_then H2.out.1 H2.out.1.size p.h) ⟨(ad.add (j * 6)).block, (ad.add (j * 6)).off + 2, none⟩ _ hblk HV.out.2.2.2.2.1
            have m3 : ∀ p : InC (fun w' => Below w2.heap.size w2 w'), p.w.cell? ⟨(ad.add (j * 6)).block, (ad.add (j * 6)).off + 3, none⟩ = some (.int .i64 fc) := fun p => HU.out _ (below_then H2.out.1 H2.out.1.size p.h) ⟨(ad.add (j * 6)).block, (ad.add (j * 6)).off + 3, none⟩ _ hblk HV.out.2.2.2.2.2.1
            have m4 : ∀ p : InC (fun w' => Below w2.heap.size w2 w'), p.w.cell? ⟨(ad.add (j * 6)).block, (ad.add (j * 6)).off + 4, none⟩ = some (.int .i64 fb) := fun p => HU.out _ (below_then H2.out.1 H2.out.1.size p.h) ⟨(ad.add (j * 6)).block, (ad.add (j * 6)).off + 4, none⟩ _ hblk HV.out.2.2.2.2.2.2.1
            have m5 : ∀ p : InC (fun w' => Below w2.heap.size w2 w'), p.w.cell? ⟨(ad.add (j * 6)).block, (ad.add (j * 6)).off + 5, none⟩ = some (.int .i64 fp) := fun p => HU.out _ (below_then H2.out.1 H2.out.1.size p.h) ⟨(ad.add (j * 6)).block, (ad.add (j * 6)).off + 5, none⟩ _ hblk HV.out.2.2.2.2.2.2.2
            have n0 : ∀ p : InC (fun w' => Below w2.heap.size w2 w'), p.w.cell? (ad.add (q * 6)) = some (.int .i64 xi) := fun p => HU.out _ (below_then H2.out.1 H2.out.1.size p.h) (ad.add (q * 6)) _ hblk' HXX.out.2.2.1
            have n1 : ∀ p : InC (fun w' => Below w2.heap.size w2 w'), p.w.cell? ⟨(ad.add (q * 6)).block, (ad.add (q * 6)).off + 1, none⟩ = some (.int .u8 (xa.toNat : Int)) := fun p => HU.out _ (below_then H2.out.1 H2.out.1.size p.h) ⟨(ad.add (q * 6)).block, (ad.add (q * 6)).off + 1, none⟩ _ hblk' HXX.out.2.2.2.1
            have n2 : ∀ p : InC (fun w' => Below w2.heap.size w2 w'), p.w.cell? ⟨(ad.add (q * 6)).block, (ad.add (q * 6)).off + 2, none⟩ = some (.string xs) := fun p => HU.out _ (below_then H2.out.1 H2.out.1.size p.h) ⟨(ad.add (q * 6)).block, (ad.add (q * 6)).off + 2, none⟩ _ hblk' HXX.out.2.2.2.2.1
            have n3 : ∀ p : InC (fun w' => Below w2.heap.size w2 w'), p.w.cell? ⟨(ad.add (q * 6)).block, (ad.add (q * 6)).off + 3, none⟩ = some (.int .i64 xc) := fun p => HU.out _ (below_then H2.out.1 H2.out.1.size p.h) ⟨(ad.add (q * 6)).block, (ad.add (q * 6)).off + 3, none⟩ _ hblk' HXX.out.2.2.2.2.2.1
            have hinh : Nonempty (InC (fun w' => Below w2.heap.size w2 w')) := ⟨⟨w2, Below.refl _ _⟩⟩
            refine wp_region_class (fun w' => Below w2.heap.size w2 w') (by kernel_rfl) (by kernel_rfl) (Below.refl _ _).drew ?_
            repeat (go_big_quiet_step (first | (go_at_call 33; rename_i p; exact class_call (HKB.out _) (fun _ hb => below_then p.h p.h.size hb))))
            refine wpQuiet_nil ?_
            rintro _ ⟨p4', rfl⟩
            clear hinh m0 m1 m2 m3 m4 m5 n0 n1 n2 n3
            have hb4 := p4'.h
            have hs4 := hb4.size
            generalize p4'.w = w4 at hb4 hs4 ⊢
            have HM4 := Lib.hid (And.intro (below_then H2.out.1 H2.out.1.size hb4) hb4)
            clear hb4
            have ho4 := H2.out.2.2.1.below HM4.out.2
            have hr4 := H2.out.2.2.2.below HM4.out.2
            have hbw4 : w.heap.size ≤ w4.heap.size := HM4.out.1.size
            have H4 := Lib.hid (And.intro ho4 hr4)
            clear ho4 hr4
            go_wp2_with (at_builtin; refine wpList_appB _ rfl _ _ 22 rfl w.heap.size 5 Try.underlying22 u8info u6 Y rfl H4.out.1 A2 qk d2' kb rfl HN.out.2.2.2.2.2 H4.out.2 ?_ ?_ ?_)
            · rw [HN.out.2.2.2.2.2]; omega
            · exact hbw4
            intro v6 w6 ho6 hg6 hv6
            have hb6 := HM4.out.1.grown hg6 hbw4 (fun k e => (H4.out.1.blk e).1)
            have d4 : w6.cell? ⟨(ad.add (j * 6)).block, (ad.add (j * 6)).off + 4, none⟩ = some (.int .i64 fb) := HU.out _ hb6 ⟨(ad.add (j * 6)).block, (ad.add (j * 6)).off + 4, none⟩ _ hblk HV.out.2.2.2.2.2.2.1
            have d5 : w6.cell? ⟨(ad.add (j * 6)).block, (ad.add (j * 6)).off + 5, none⟩ = some (.int .i64 fp) := HU.out _ hb6 ⟨(ad.add (j * 6)).block, (ad.add (j * 6)).off + 5, none⟩ _ hblk HV.out.2.2.2.2.2.2.2
            obtain ⟨Y1, hY1⟩ : ∃ Y1, Y ++ kb = Y1 := ⟨_, rfl⟩
            have hl1' : Y1.length = Y.length + qk := by rw [← hY1, List.length_append, HN.out.2.2.2.2.2]
            rw [hY1] at ho6
            have HY1 := Lib.hid (And.intro hY1 hl1')
            have hs6 := hg6.size
            have H6 := Lib.hid (And.intro ho6 hb6)
            clear hY1 hl1' ho6 hb6 hg6 hv6
            have hlit : RV (w6.drew.alloc (.cells #[.int .u8 fb, .int .u8 fp] 5)) (some ⟨w6.heap.size, 0, none⟩) (bv [UInt8.ofNat fb.toNat, UInt8.ofNat fp.toNat]) := by
              have h := (RowB.new w6.drew 5 [UInt8.ofNat fb.toNat, UInt8.ofNat fp.toNat]).rv
              simp only [bv, List.map_cons, List.map_nil, HLB.out.2.1, HLB.out.2.2] at h ⊢
              exact h
            have hbl : Below w6.heap.size w6 (w6.drew.alloc (.cells #[.int .u8 fb, .int .u8 fp] 5)) := ((Below.refl w6.heap.size w6).drew).alloc (Nat.le_refl _) _
            have hbw7 := below_then H6.out.2 H6.out.2.size hbl
            have hsz1 : Y1.length + [UInt8.ofNat fb.toNat, UInt8.ofNat fp.toNat].length ≤ 140737488355328 := by rw [HY1.out.2]; simp; omega
            have PC : ∀ (v8 : Value) (w8 : World), OwnB 5 w8 w.heap.size v8 (Y1 ++ [UInt8.ofNat fb.toNat, UInt8.ofNat fp.toNat]) → (w6.drew.alloc (.cells #[.int .u8 fb, .int .u8 fp] 5)).grownBy w8 v6.ownBlock →
                (w8.cell? ⟨(ad.add (j * 6)).block, (ad.add (j * 6)).off + 4, none⟩ = some (.int .i64 fb) ∧ w8.cell? ⟨(ad.add (j * 6)).block, (ad.add (j * 6)).off + 5, none⟩ = some (.int .i64 fp)) ∧ Hid (OwnB 5 w8 w.heap.size v8 (UInt8.ofNat n :: (l.take (j + 1)).flatMap chdB) ∧ Below w.heap.size w w8) := fun v8 w8 ho8 hg8 => by
              have hb8 := hbw7.grown hg8 hbw7.size (fun k e => (H6.out.1.blk e).1)
              refine ⟨⟨HU.out _ hb8 ⟨(ad.add (j * 6)).block, (ad.add (j * 6)).off + 4, none⟩ _ hblk HV.out.2.2.2.2.2.2.1, HU.out _ hb8 ⟨(ad.add (j * 6)).block, (ad.add (j * 6)).off + 5, none⟩ _ hblk HV.out.2.2.2.2.2.2.2⟩, And.intro ?_ hb8⟩
              have heq : Y1 ++ [UInt8.ofNat fb.toNat, UInt8.ofNat fp.toNat] = UInt8.ofNat n :: (l.take (j + 1)).flatMap chdB := by
                rw [HN.out.1, HLB.out.1, ← HY1.out.1]
                simp
              rw [← heq]
              exact ho8
            have H7 := Lib.hid (And.intro (H6.out.1.below hbl) (And.intro hlit (And.intro hsz1 (And.intro hbw7.size PC))))
            clear hlit hbl hbw7 hsz1 PC
            go_wp2_with fail
            go_region_held3 (fun w' => w'.cell? ⟨(ad.add (j * 6)).block, (ad.add (j * 6)).off + 4, none⟩ = some (.int .i64 fb) ∧ w'.cell? ⟨(ad.add (j * 6)).block, (ad.add (j * 6)).off + 5, none⟩ = some (.int .i64 fp))
              (first | exact ⟨d4, d5⟩ | exact ⟨Lib.cell?_alloc_some _ d4, Lib.cell?_alloc_some _ d5⟩ | exact hq')
              (first
                | (refine step_appB _ rfl (.tmp 93) (.tmp 106) 22 rfl w.heap.size 5 Try.underlying22 u8info v6 Y1 (by simp [Act.eval, Act.put]) H7.out.1 (some ⟨w6.heap.size, 0, none⟩) 2 2 [UInt8.ofNat fb.toNat, UInt8.ofNat fp.toNat] (by simp [Act.eval, Act.put]) rfl H7.out.2.1 H7.out.2.2.1 H7.out.2.2.2.1 ?_; intro v8 w8 ho8 hg8 hv8; obtain ⟨hq', H8⟩ := H7.out.2.2.2.2 v8 w8 ho8 hg8; clear ho8 hg8 hv8))
            all_goals
              go_wp2_with fail
              go_roundg (n - (j + 1))
              case measure => have := HX.out.1; omega
              case rel => exact ⟨j + 1, by have := HX.out.1; omega, by go_num, H8.out.1, H8.out.2, HN.out.2.1, HN.out.2.2.1⟩
        · have hj0 : 0 < j := by
            rcases Nat.eq_zero_or_pos j with h | h
            · exact absurd (fun p hp => by omega) hos
            · exact h
          have hkb := (keyB_length hm).2
          have hpk := HPK
          rw [show putKeyS ⟨fi, fa, fs, fc⟩ = (keyB ⟨fi, fa, fs, fc⟩, 0) from if_pos hm] at hpk
          have HP := Lib.hid hpk
          clear hpk HPK
          have t4 : decide (fb < 0) = false := decide_eq_false (by omega)
          have t5 : decide (255 < fb) = false := decide_eq_false (by omega)
          have t6 : decide (fp < 0) = false := decide_eq_false (by omega)
          have t7 : decide (255 < fp) = false := decide_eq_false (by omega)
          have q3 : decide (0 < (j : Int)) = true := decide_eq_true (by omega)
          have q4 : decide (0 < j) = true := decide_eq_true (by omega)
          obtain ⟨q, hq⟩ : ∃ q, j = q + 1 := ⟨j - 1, by omega⟩
          have hwm : IntKind.i64.wrap ((j : Int) - 1) = (q : Int) := by rw [hq]; exact (IntWalk.i64_in _ (by omega)).trans (by omega)
          have hmn : (q : Int) < (n : Int) := by omega
          obtain ⟨x, hx⟩ : ∃ x, l[q]? = some x := ⟨_, List.getElem?_eq_getElem (by have := H.out.2.1; omega)⟩
          obtain ⟨okx, ad', hA', hblk', x0, x1, x2, x3, _, _⟩ := ChdsIn.at_ H.out.1 hx
          injection hA' with hA'
          subst hA'
          have HXX := Lib.hid (And.intro hx (And.intro hblk' (And.intro x0 (And.intro x1 (And.intro x2 (And.intro x3 hq))))))
          have HKB := Lib.hid (fun w => dBefore_any w x.key ⟨fi, fa, fs, fc⟩ okx HV.out.2.1)
          clear x0 x1 x2 x3 hx hq okx
          obtain ⟨⟨xi, xa, xs, xc⟩, xb, xp⟩ := x
          dsimp only at HXX
          unfold Ky.val at HKB
          dsimp only at HKB
          have hlt' : ¬ keyLt ⟨xi, xa, xs, xc⟩ ⟨fi, fa, fs, fc⟩ := fun hk => hos fun p _ hp => by
            rw [HXX.out.2.2.2.2.2.2, Nat.add_sub_cancel, HXX.out.1] at hp
            cases hp
            exact hk
          rw [decide_eq_false hlt'] at HKB
          have HF := Lib.hid (HBF.out.2 hos)
          clear hm hlt' hos
          go_wp2_with fail
          refine (HP.out _).mono ?_
          rintro e w2 ⟨v2, rfl, ho2, hb2⟩
          obtain ⟨A2, d2', rfl, hrv2, _, _, _⟩ := ho2.slice
          have H2 := Lib.hid (And.intro (below_then HX.out.2.2.1 HX.out.2.2.1.size hb2) (And.intro ho2 (And.intro (HX.out.2.1.below hb2) hrv2)))
          have hsg := hb2.size
          clear ho2 hb2 hrv2 p0 p1 p2 p3
          dsimp only
          skip
          go_wp2_with fail
          have m0 : ∀ p : InC (fun w' => Below w2.heap.size w2 w'), p.w.cell? (ad.add (j * 6)) = some (.int .i64 fi) := fun p => HU.out _ (below_then H2.out.1 H2.out.1.size p.h) (ad.add (j * 6)) _ hblk HV.out.2.2.1
          have m1 : ∀ p : InC (fun w' => Below w2.heap.size w2 w'), p.w.cell? ⟨(ad.add (j * 6)).block, (ad.add (j * 6)).off + 1, none⟩ = some (.int .u8 (fa.toNat : Int)) := fun p => HU.out _ (below_then H2.out.1 H2.out.1.size p.h) ⟨(ad.add (j * 6)).block, (ad.add (j * 6)).off + 1, none⟩ _ hblk HV.out.2.2.2.1
          have m2 : ∀ p : InC (fun w' => Below w2.heap.size w2 w'), p.w.cell? ⟨(ad.add (j * 6)).block, (ad.add (j * 6)).off + 2, none⟩ = some (.string fs) := fun p => HU.out _ (below_then H2.out.1 H2.out.1.size p.h) ⟨(ad.add (j * 6)).block, (ad.add (j * 6)).off + 2, none⟩ _ hblk HV.out.2.2.2.2.1
          have m3 : ∀ p : InC (fun w' => Below w2.heap.size w2 w'), p.w.cell? ⟨(ad.add (j * 6)).block, (ad.add (j * 6)).off + 3, none⟩ = some (.int .i64 fc) := fun p => HU.out _ (below_then H2.out.1 H2.out.1.size p.h) ⟨(ad.add (j * 6)).block, (ad.add (j * 6)).off + 3, none⟩ _ hblk HV.out.2.2.2.2.2.1
          have m4 : ∀ p : InC (fun w' => Below w2.heap.size w2 w'), p.w.cell? ⟨(ad.add (j * 6)).block, (ad.add (j * 6)).off + 4, none⟩ = some (.int .i64 fb) := fun p => HU.out _ (below_then H2.out.1 H2.out.1.size p.h) ⟨(ad.add (j * 6)).block, (ad.add (j * 6)).off + 4, none⟩ _ hblk HV.out.2.2.2.2.2.2.1
          have m5 : ∀ p : InC (fun w' => Below w2.heap.size w2 w'), p.w.cell? ⟨(ad.add (j * 6)).block, (ad.add (j * 6)).off + 5, none⟩ = some (.int .i64 fp) := fun p => HU.out _ (below_then H2.out.1 H2.out.1.size p.h) ⟨(ad.add (j * 6)).block, (ad.add (j * 6)).off + 5, none⟩ _ hblk HV.out.2.2.2.2.2.2.2
          have n0 : ∀ p : InC (fun w' => Below w2.heap.size w2 w'), p.w.cell? (ad.add (q * 6)) = some (.int .i64 xi) := fun p => HU.out _ (below_then H2.out.1 H2.out.1.size p.h) (ad.add (q * 6)) _ hblk' HXX.out.2.2.1
          have n1 : ∀ p : InC (fun w' => Below w2.heap.size w2 w'), p.w.cell? ⟨(ad.add (q * 6)).block, (ad.add (q * 6)).off + 1, none⟩ = some (.int .u8 (xa.toNat : Int)) := fun p => HU.out _ (below_then H2.out.1 H2.out.1.size p.h) ⟨(ad.add (q * 6)).block, (ad.add (q * 6)).off + 1, none⟩ _ hblk' HXX.out.2.2.2.1
          have n2 : ∀ p : InC (fun w' => Below w2.heap.size w2 w'), p.w.cell? ⟨(ad.add (q * 6)).block, (ad.add (q * 6)).off + 2, none⟩ = some (.string xs) := fun p => HU.out _ (below_then H2.out.1 H2.out.1.size p.h) ⟨(ad.add (q * 6)).block, (ad.add (q * 6)).off + 2, none⟩ _ hblk' HXX.out.2.2.2.2.1
          have n3 : ∀ p : InC (fun w' => Below w2.heap.size w2 w'), p.w.cell? ⟨(ad.add (q * 6)).block, (ad.add (q * 6)).off + 3, none⟩ = some (.int .i64 xc) := fun p => HU.out _ (below_then H2.out.1 H2.out.1.size p.h) ⟨(ad.add (q * 6)).block, (ad.add (q * 6)).off + 3, none⟩ _ hblk' HXX.out.2.2.2.2.2.1
          have hinh : Nonempty (InC (fun w' => Below w2.heap.size w2 w')) := ⟨⟨w2, Below.refl _ _⟩⟩
          refine wp_region_class (fun w' => Below w2.heap.size w2 w') (by kernel_rfl) (by kernel_rfl) (Below.refl _ _).drew ?_
          repeat (go_big_quiet_step (first | (go_at_call 33; rename_i p; exact class_call (HKB.out _) (fun _ hb => below_then p.h p.h.size hb))))
          refine wpQuiet_nil ?_
          rintro _ ⟨p4', rfl⟩
          clear hinh m0 m1 m2 m3 m4 m5 n0 n1 n2 n3
          have hb4 := p4'.h
          have hs4 := hb4.size
          generalize p4'.w = w4 at hb4 hs4 ⊢
          have HM4 := Lib.hid (And.intro (below_then H2.out.1 H2.out.1.size hb4) hb4)
          clear hb4
          go_wp2_with fail
          go_ret2
          rw [HF.out]
          exact ⟨_, rfl, OwnB.nil _ _ _, HM4.out.1⟩
      · obtain rfl : j = n := by have := HX.out.1; omega
        have hge : ¬ (j : Int) < (j : Int) := by omega
        have ho := HX.out.2.1
        have hall := HX.out.2.2.2.1
        rw [List.take_of_length_le (by have := H.out.2.1; omega)] at ho hall
        have hok : innOk l := ⟨by have := H.out.2.1; omega, by have := H.out.2.1; omega, hall, (chain_iff l).2 fun i f hf => HX.out.2.2.2.2 i f (by have := (List.getElem?_eq_some_iff.1 hf).1; have := H.out.2.1; omega) hf⟩
        have hle := innB_le hok
        have hlb : innB l = UInt8.ofNat j :: l.flatMap chdB := by unfold innB; rw [H.out.2.1]
        rw [← hlb] at ho
        have hrr : r = putPageS s 5 (innB l) := by rw [← H.out.2.2]; exact if_pos hok
        generalize innB l = X at *
        obtain ⟨A3, d3, rfl, hrv, hl, hm, _⟩ := ho.slice
        have HF := Lib.hid (And.intro hrr hrv)
        clear hall hok hlb ho hrr hrv
        go_wp2_with fail
        refine (dPut_any wr s 5 A3 d3 X HF.out.2 (Nat.le_trans hl hm)).mono ?_
        rintro e w3 ⟨v3, rfl, ho3, hb3⟩
        have H3 := Lib.hid (And.intro ho3 hb3)
        clear ho3 hb3
        go_wp2_with fail
        go_ret2
        rw [HF.out.1]
        exact ⟨_, rfl, H3.out.1.lower HX.out.2.2.1.size, below_then HX.out.2.2.1 HX.out.2.2.1.size H3.out.2⟩
  · have HF := Lib.hid (HBAD.out fun hb => by have := hb.2.1; have := H.out.2.1; omega)
    have t2 : decide (255 < n) = true := decide_eq_true (by omega)
    have t3 : decide ((255 : Int) < (n : Int)) = true := decide_eq_true (by omega)
    go_enter Try.func24, Try.ntmps24
    go_wp2_with fail
    go_ret2
    rw [HF.out]
    exact ⟨_, rfl, OwnB.nil _ _ _, Below.refl _ _⟩
end Go.Proofs.Ytegoeagmadhpgaa
