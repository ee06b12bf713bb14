import Derived.Test.YtegoeagmadhpgaaMPlain
import Derived.Test.YtegoeagmadhpgaaKeyPM
import Derived.Test.YtegoeagmadhpgaaMApp
import Derived.Test.YtegoeagmadhpgaaSealPM
import Derived.Test.YtegoeagmadhpgaaMKeyC
set_option linter.unusedVariables false
set_option linter.unusedSimpArgs false
/- Layer 15, the program's PutLeaf: contract. -/
namespace Go.Proofs.Ytegoeagmadhpgaa
open Go.RowKit

/-- A fact's copy, what was before the call. -/
def FG (w w' : World) (g : Nat) (f : Fct) (B : Option Addr) (L d : Nat) : Prop := Blk w' g 32 #[.int .i64 f.key.ino, .int .u8 (f.key.what.toNat : Int), .string f.key.name, .int .i64 f.key.chunk, .slice B L d] ∧ Below w.heap.size w w'
theorem FG.step {w w1 w2 : World} {g : Nat} {f : Fct} {B : Option Addr} {L d : Nat} (h : FG w w1 g f B L d) (hb : Below w1.heap.size w1 w2) : FG w w2 g f B L d := ⟨h.1.below hb h.1.lt, below_then h.2 h.2.size hb⟩
theorem FG.drew {w w1 : World} {g : Nat} {f : Fct} {B : Option Addr} {L d : Nat} (h : FG w w1 g f B L d) : FG w w1.drew g f B L d := ⟨h.1, h.2.drew⟩
theorem FG.cells {w w1 : World} {g : Nat} {f : Fct} {B : Option Addr} {L d : Nat} (h : FG w w1 g f B L d) : w1.cell? ⟨g, 0, none⟩ = some (.int .i64 f.key.ino) ∧ w1.cell? ⟨g, 1, none⟩ = some (.int .u8 (f.key.what.toNat : Int)) ∧ w1.cell? ⟨g, 2, none⟩ = some (.string f.key.name) ∧ w1.cell? ⟨g, 3, none⟩ = some (.int .i64 f.key.chunk) ∧ w1.cell? ⟨g, 4, none⟩ = some (.slice B L d) := by
  refine ⟨?_, ?_, ?_, ?_, ?_⟩ <;> rw [h.1.cell] <;> rfl
theorem FG.old {w w1 : World} {g : Nat} {f : Fct} {B : Option Addr} {L d : Nat} (h : FG w w1 g f B L d) {p : Addr} {u : Value} (hu : w.cell? p = some u) (hp : p.block < w.heap.size) : w1.cell? p = some u := (World.cell?_of_block (h.2.block _ hp)).trans hu

def ordStep (l : List Fct) (i : Nat) (f : Fct) : Prop := ∀ p, 0 < i → l[i - 1]? = some p → keyLt p.key f.key
theorem ordB_step (l : List Fct) : ordB l = true ↔ ∀ i f, l[i]? = some f → ordStep l i f := by
  rw [ordB_iff]
  unfold ordStep
  constructor
  · intro h i f hf p hi hp
    exact h (i - 1) p f hp (by rw [show i - 1 + 1 = i by omega]; exact hf)
  · intro h i a b ha hb
    exact h (i + 1) b hb a (by omega) (by simpa using ha)

set_option maxRecDepth 100000 in
set_option maxHeartbeats 8000000 in
theorem putLeaf_any (w : World) (s : Int) (A : Option Addr) (n d : Nat) (l : List Fct) (h : FctsIn w A n l) (hv : ∀ f ∈ l, f.val.length ≤ 140737488351232) (hn : n ≤ 140737488355328) :
    Calls Try.prog 19 #[.int .i64 s, .slice A n d] w (PutPageEnd w (putLeafS s l)) := by
  obtain ⟨r, hr⟩ : ∃ r, putLeafS s l = r := ⟨_, rfl⟩
  rw [hr]
  have H := Lib.hid (show FctsIn w A n l ∧ l.length = n ∧ (∀ f ∈ l, f.val.length ≤ 140737488351232) ∧ putLeafS s l = r from ⟨h, h.1, hv, hr⟩)
  clear h hv hr
  have hbad : ¬ leafOk l → r = ([], 2) := fun hb => by rw [← H.out.2.2.2]; exact if_neg hb
  have HBAD := Lib.hid hbad
  clear hbad
  rcases (show n < 1 ∨ (1 ≤ n ∧ n ≤ 255) ∨ (1 ≤ n ∧ 255 < n) by omega) with h0 | ⟨h1, h2⟩ | ⟨h1, h2⟩
  · have HF := Lib.hid (HBAD.out fun hb => by have := hb.1; have := H.out.2.1; omega)
    go_enter Try.func19, Try.ntmps19
    go_wp2_with fail
    go_ret2
    rw [HF.out]
    exact ⟨_, rfl, OwnB.nil _ _ _, Below.refl _ _⟩
  · have t2 : decide (255 < n) = false := decide_eq_false (by omega)
    have t3 : decide ((255 : Int) < (n : Int)) = false := decide_eq_false (by omega)
    go_enter Try.func19, Try.ntmps19
    go_wp2_with fail
    have hlit := own_lit1 w 5 n (by omega)
    have HL := Lib.hid (And.intro hlit ((Below.refl w.heap.size w).alloc (Nat.le_refl _) (.cells #[.int .u8 (n : Int)] 5)))
    clear hlit
    go_loopg [6, 27] n (fun k v i wr => ∃ j : Nat, j + k = n ∧ i = .int .i64 j ∧ OwnB 5 wr w.heap.size v (UInt8.ofNat n :: (l.take j).flatMap fctB) ∧ Below w.heap.size w wr ∧ (∀ f ∈ l.take j, fitF f) ∧ ∀ i f, i < j → l[i]? = some f → ordStep l i f)
    case atStart => exact ⟨0, by omega, rfl, HL.out.1, HL.out.2, fun f hf => by simp at hf, fun i f h => by omega⟩
    case round =>
      obtain ⟨j, hj, rfl, ho, hb, hall, hord⟩ := hrel
      have HX := Lib.hid (And.intro hj (And.intro ho (And.intro hb (And.intro hall hord))))
      have hsz := hb.size
      clear hj ho hb hall hord
      by_cases hlt : j < n
      · obtain ⟨f, hf⟩ : ∃ f, l[j]? = some f := ⟨_, List.getElem?_eq_getElem (by have := H.out.2.1; omega)⟩
        obtain ⟨okf, ad, B1, d1, hA, hr1, l1, l2, hblk, x0, x1, x2, x3, x4⟩ := FctsIn.at_ H.out.1 hf
        subst hA
        have up : ∀ {p : Addr} {u : Value}, w.cell? p = some u → p.block < w.heap.size → wr.cell? p = some u := fun hu hp => (World.cell?_of_block (HX.out.2.2.1.block _ hp)).trans hu
        have p0 := up x0 hblk
        have p1 := up x1 hblk
        have p2 := up x2 hblk
        have p3 := up x3 hblk
        have p4 := up x4 hblk
        have hvl := H.out.2.2.1 f (List.mem_of_getElem? hf)
        have hjn : (j : Int) < (n : Int) := by omega
        obtain ⟨L, hL⟩ : ∃ L, f.val.length = L := ⟨_, rfl⟩
        have HPK := fun w => putKey_any w f.key okf
        have hG : FG w (wr.alloc (.cells #[.int .i64 f.key.ino, .int .u8 (f.key.what.toNat : Int), .string f.key.name, .int .i64 f.key.chunk, .slice B1 L d1] 32)) wr.heap.size f B1 L d1 := ⟨Blk.new _ _ _, HX.out.2.2.1.alloc HX.out.2.2.1.size _⟩
        have hownW := HX.out.2.1.below ((Below.refl _ _).alloc (Nat.le_refl _) (.cells #[.int .i64 f.key.ino, .int .u8 (f.key.what.toNat : Int), .string f.key.name, .int .i64 f.key.chunk, .slice B1 L d1] 32))
        have HM := Lib.hid (And.intro hG hownW)
        have HV := Lib.hid (And.intro hf (And.intro okf (And.intro hr1 (And.intro hL hvl))))
        obtain ⟨m0, m1, m2, m3, m4⟩ := hG.cells
        clear x0 x1 x2 x3 x4 up hG hownW hf okf hr1
        have hbadf : ¬ fitF f → r = ([], 2) := fun hb => HBAD.out fun ho => hb (ho.2.2.1 f (List.mem_of_getElem? HV.out.1))
        have hbado : ¬ ordStep l j f → r = ([], 2) := fun hb => HBAD.out fun ho => hb ((ordB_step l).1 ho.2.2.2 j f HV.out.1)
        have HBF := Lib.hid (And.intro hbadf hbado)
        clear hbadf hbado
        rw [hL] at p4 hvl l1
        have hcase : (¬ mayK f.key) ∨ (mayK f.key ∧ L < 1) ∨ (mayK f.key ∧ 255 < L) ∨ (mayK f.key ∧ 1 ≤ L ∧ L ≤ 255 ∧ ordStep l j f) ∨ (mayK f.key ∧ 1 ≤ L ∧ L ≤ 255 ∧ ¬ ordStep l j f) := by
          by_cases hm : mayK f.key
          · right
            by_cases hl : L < 1
            · exact .inl ⟨hm, hl⟩
            · right
              by_cases hl2 : 255 < L
              · exact .inl ⟨hm, hl2⟩
              · right
                by_cases ho : ordStep l j f
                · exact .inl ⟨hm, by omega, by omega, ho⟩
                · exact .inr ⟨hm, by omega, by omega, ho⟩
          · exact .inl hm
        have hbase := HX.out.2.2.1.size
        obtain ⟨⟨fi, fa, fs, fc⟩, fv⟩ := f
        unfold Ky.val at HPK
        dsimp only at p0 p1 p2 p3 p4 m0 m1 m2 m3 m4 HPK HM HV HBF
        rcases hcase with hm | ⟨hm, hl⟩ | ⟨hm, hl⟩ | ⟨hm, hl1, hl2, hos⟩ | ⟨hm, hl1, hl2, hos⟩
        · have hpk := HPK
          rw [show putKeyS ⟨fi, fa, fs, fc⟩ = ([], 2) from if_neg hm] at hpk
          have HP := Lib.hid hpk
          have HF := Lib.hid (HBF.out.1 fun h => hm h.1)
          clear hm hpk HPK

          go_wp2_with fail
          refine (HP.out _).mono ?_
          rintro e w2 ⟨v2, rfl, ho2, hb2⟩
          obtain ⟨A2, d2', rfl, hrv2, _, _, _⟩ := ho2.slice
          have H2 := Lib.hid (And.intro (HM.out.1.step hb2) (And.intro ho2 (And.intro (HM.out.2.below hb2) (And.intro hrv2 trivial))))
          have hsg := hb2.size
          have hsw := H2.out.1.2.size
          clear ho2 hb2 hrv2 p0 p1 p2 p3 p4 m0 m1 m2 m3 m4
          dsimp only
          skip
          go_wp2_with fail
          generalize wr.heap.size = g0 at *

          have m0 : ∀ p : InC (fun w' => Below w2.heap.size w2 w'), p.w.cell? ⟨g0, 0, none⟩ = some (.int .i64 fi) := fun p => (H2.out.1.step p.h).cells.1
          have m1 : ∀ p : InC (fun w' => Below w2.heap.size w2 w'), p.w.cell? ⟨g0, 1, none⟩ = some (.int .u8 (fa.toNat : Int)) := fun p => (H2.out.1.step p.h).cells.2.1
          have m2 : ∀ p : InC (fun w' => Below w2.heap.size w2 w'), p.w.cell? ⟨g0, 2, none⟩ = some (.string fs) := fun p => (H2.out.1.step p.h).cells.2.2.1
          have m3 : ∀ p : InC (fun w' => Below w2.heap.size w2 w'), p.w.cell? ⟨g0, 3, none⟩ = some (.int .i64 fc) := fun p => (H2.out.1.step p.h).cells.2.2.2.1
          have m4 : ∀ p : InC (fun w' => Below w2.heap.size w2 w'), p.w.cell? ⟨g0, 4, none⟩ = some (.slice B1 L d1) := fun p => (H2.out.1.step p.h).cells.2.2.2.2

          have hinh : Nonempty (InC (fun w' => Below w2.heap.size w2 w')) := ⟨⟨w2, Below.refl _ _⟩⟩
          refine wp_region_class (fun w' => Below w2.heap.size w2 w') (by kernel_rfl) (by kernel_rfl) (Below.refl _ _).drew ?_
          repeat (go_big_quiet_step (fail))
          refine wpQuiet_nil ?_
          rintro _ ⟨p4', rfl⟩
          clear hinh m0 m1 m2 m3 m4
          have hb4 := p4'.h
          have hs4 := hb4.size
          generalize p4'.w = w4 at hb4 hs4 ⊢
          have HM4 := Lib.hid (And.intro (H2.out.1.step hb4) hb4)
          clear hb4

          go_wp2_with fail
          go_ret2
          rw [HF.out]
          exact ⟨_, rfl, OwnB.nil _ _ _, HM4.out.1.2⟩
        · have hkb := (keyB_length hm).2
          have hpk := HPK
          rw [show putKeyS ⟨fi, fa, fs, fc⟩ = (keyB ⟨fi, fa, fs, fc⟩, 0) from if_pos hm] at hpk
          have HP := Lib.hid hpk
          clear hpk HPK
          have HF := Lib.hid (HBF.out.1 fun h => by have := h.2.1; have := HV.out.2.2.2.1; dsimp only at *; omega)
          clear hm
          have t6 : decide (L < 1) = true := decide_eq_true hl
          have t7 : decide ((L : Int) < 1) = true := decide_eq_true (by omega)
          have t8 : (L : Int) < 1 := by omega

          go_wp2_with fail
          refine (HP.out _).mono ?_
          rintro e w2 ⟨v2, rfl, ho2, hb2⟩
          obtain ⟨A2, d2', rfl, hrv2, _, _, _⟩ := ho2.slice
          have H2 := Lib.hid (And.intro (HM.out.1.step hb2) (And.intro ho2 (And.intro (HM.out.2.below hb2) (And.intro hrv2 trivial))))
          have hsg := hb2.size
          have hsw := H2.out.1.2.size
          clear ho2 hb2 hrv2 p0 p1 p2 p3 p4 m0 m1 m2 m3 m4
          dsimp only
          skip
          go_wp2_with fail
          generalize wr.heap.size = g0 at *

          have m0 : ∀ p : InC (fun w' => Below w2.heap.size w2 w'), p.w.cell? ⟨g0, 0, none⟩ = some (.int .i64 fi) := fun p => (H2.out.1.step p.h).cells.1
          have m1 : ∀ p : InC (fun w' => Below w2.heap.size w2 w'), p.w.cell? ⟨g0, 1, none⟩ = some (.int .u8 (fa.toNat : Int)) := fun p => (H2.out.1.step p.h).cells.2.1
          have m2 : ∀ p : InC (fun w' => Below w2.heap.size w2 w'), p.w.cell? ⟨g0, 2, none⟩ = some (.string fs) := fun p => (H2.out.1.step p.h).cells.2.2.1
          have m3 : ∀ p : InC (fun w' => Below w2.heap.size w2 w'), p.w.cell? ⟨g0, 3, none⟩ = some (.int .i64 fc) := fun p => (H2.out.1.step p.h).cells.2.2.2.1
          have m4 : ∀ p : InC (fun w' => Below w2.heap.size w2 w'), p.w.cell? ⟨g0, 4, none⟩ = some (.slice B1 L d1) := fun p => (H2.out.1.step p.h).cells.2.2.2.2

          have hinh : Nonempty (InC (fun w' => Below w2.heap.size w2 w')) := ⟨⟨w2, Below.refl _ _⟩⟩
          refine wp_region_class (fun w' => Below w2.heap.size w2 w') (by kernel_rfl) (by kernel_rfl) (Below.refl _ _).drew ?_
          repeat (go_big_quiet_step (fail))
          refine wpQuiet_nil ?_
          rintro _ ⟨p4', rfl⟩
          clear hinh m0 m1 m2 m3 m4
          have hb4 := p4'.h
          have hs4 := hb4.size
          generalize p4'.w = w4 at hb4 hs4 ⊢
          have HM4 := Lib.hid (And.intro (H2.out.1.step hb4) hb4)
          clear hb4

          go_wp2_with fail
          go_ret2
          rw [HF.out]
          exact ⟨_, rfl, OwnB.nil _ _ _, HM4.out.1.2⟩
        · have hkb := (keyB_length hm).2
          have hpk := HPK
          rw [show putKeyS ⟨fi, fa, fs, fc⟩ = (keyB ⟨fi, fa, fs, fc⟩, 0) from if_pos hm] at hpk
          have HP := Lib.hid hpk
          clear hpk HPK
          have HF := Lib.hid (HBF.out.1 fun h => by have := h.2.2; have := HV.out.2.2.2.1; dsimp only at *; omega)
          clear hm
          have t4 : decide (255 < L) = true := decide_eq_true hl
          have t5 : decide ((255 : Int) < (L : Int)) = true := decide_eq_true (by omega)
          have t6 : decide (L < 1) = false := decide_eq_false (by omega)
          have t7 : decide ((L : Int) < 1) = false := decide_eq_false (by omega)

          go_wp2_with fail
          refine (HP.out _).mono ?_
          rintro e w2 ⟨v2, rfl, ho2, hb2⟩
          obtain ⟨A2, d2', rfl, hrv2, _, _, _⟩ := ho2.slice
          have H2 := Lib.hid (And.intro (HM.out.1.step hb2) (And.intro ho2 (And.intro (HM.out.2.below hb2) (And.intro hrv2 trivial))))
          have hsg := hb2.size
          have hsw := H2.out.1.2.size
          clear ho2 hb2 hrv2 p0 p1 p2 p3 p4 m0 m1 m2 m3 m4
          dsimp only
          skip
          go_wp2_with fail
          generalize wr.heap.size = g0 at *

          have m0 : ∀ p : InC (fun w' => Below w2.heap.size w2 w'), p.w.cell? ⟨g0, 0, none⟩ = some (.int .i64 fi) := fun p => (H2.out.1.step p.h).cells.1
          have m1 : ∀ p : InC (fun w' => Below w2.heap.size w2 w'), p.w.cell? ⟨g0, 1, none⟩ = some (.int .u8 (fa.toNat : Int)) := fun p => (H2.out.1.step p.h).cells.2.1
          have m2 : ∀ p : InC (fun w' => Below w2.heap.size w2 w'), p.w.cell? ⟨g0, 2, none⟩ = some (.string fs) := fun p => (H2.out.1.step p.h).cells.2.2.1
          have m3 : ∀ p : InC (fun w' => Below w2.heap.size w2 w'), p.w.cell? ⟨g0, 3, none⟩ = some (.int .i64 fc) := fun p => (H2.out.1.step p.h).cells.2.2.2.1
          have m4 : ∀ p : InC (fun w' => Below w2.heap.size w2 w'), p.w.cell? ⟨g0, 4, none⟩ = some (.slice B1 L d1) := fun p => (H2.out.1.step p.h).cells.2.2.2.2

          have hinh : Nonempty (InC (fun w' => Below w2.heap.size w2 w')) := ⟨⟨w2, Below.refl _ _⟩⟩
          refine wp_region_class (fun w' => Below w2.heap.size w2 w') (by kernel_rfl) (by kernel_rfl) (Below.refl _ _).drew ?_
          repeat (go_big_quiet_step (fail))
          refine wpQuiet_nil ?_
          rintro _ ⟨p4', rfl⟩
          clear hinh m0 m1 m2 m3 m4
          have hb4 := p4'.h
          have hs4 := hb4.size
          generalize p4'.w = w4 at hb4 hs4 ⊢
          have HM4 := Lib.hid (And.intro (H2.out.1.step hb4) hb4)
          clear hb4

          go_wp2_with fail
          go_ret2
          rw [HF.out]
          exact ⟨_, rfl, OwnB.nil _ _ _, HM4.out.1.2⟩
        · rcases Nat.eq_zero_or_pos j with hj0 | hj0
          · have hkb := (keyB_length hm).2
            have hpk := HPK
            rw [show putKeyS ⟨fi, fa, fs, fc⟩ = (keyB ⟨fi, fa, fs, fc⟩, 0) from if_pos hm] at hpk
            have HP := Lib.hid hpk
            clear hpk HPK

            have t4 : decide (255 < L) = false := decide_eq_false (by omega)
            have t5 : decide ((255 : Int) < (L : Int)) = false := decide_eq_false (by omega)
            have t6 : decide (L < 1) = false := decide_eq_false (by omega)
            have t7 : decide ((L : Int) < 1) = false := decide_eq_false (by omega)

            have q3 : decide (0 < (j : Int)) = false := decide_eq_false (by omega)
            have q4 : decide (0 < j) = false := decide_eq_false (by omega)
            have hos : ordStep l j ⟨⟨fi, fa, fs, fc⟩, fv⟩ := fun p h => by omega
            have HJ := Lib.hid hj0
            clear hj0

            have hLL : fv.length = L := HV.out.2.2.2.1
            have hfit : fitF ⟨⟨fi, fa, fs, fc⟩, fv⟩ := ⟨hm, by show 1 ≤ fv.length; omega, by show fv.length ≤ 255; omega⟩
            have hle := flat_fct_le (l.take j) HX.out.2.2.2.1
            rw [List.length_take] at hle
            have hxl : (UInt8.ofNat n :: (l.take j).flatMap fctB).length ≤ 70000 := by rw [List.length_cons]; omega
            have hft : UInt8.ofNat n :: (l.take (j + 1)).flatMap fctB = (UInt8.ofNat n :: (l.take j).flatMap fctB) ++ fctB ⟨⟨fi, fa, fs, fc⟩, fv⟩ := by
              rw [List.take_add_one, HV.out.1, List.flatMap_append]
              simp
            have hal : ∀ x ∈ l.take (j + 1), fitF x := by
              intro x hx
              rw [List.take_add_one, HV.out.1] at hx
              rcases List.mem_append.1 hx with hx | hx
              · exact HX.out.2.2.2.1 x hx
              · simp at hx
                rw [hx]
                exact hfit
            have hor : ∀ i f, i < j + 1 → l[i]? = some f → ordStep l i f := by
              intro i f hi hf
              rcases Nat.lt_or_ge i j with h | h
              · exact HX.out.2.2.2.2 i f h hf
              · obtain rfl : i = j := by omega
                rw [HV.out.1] at hf
                cases hf
                exact hos
            have hown := HM.out.2
            generalize UInt8.ofNat n :: (l.take j).flatMap fctB = Y at hxl hft hown
            have hkk : keyB ⟨fi, fa, fs, fc⟩ = keyB ⟨fi, fa, fs, fc⟩ := rfl
            revert hkk
            generalize hkb' : keyB ⟨fi, fa, fs, fc⟩ = kb at HP hkb
            intro hkk
            clear hkk
            obtain ⟨qk, hqk⟩ : ∃ q, kb.length = q := ⟨_, rfl⟩
            rw [hqk] at hkb
            have HN := Lib.hid (And.intro hft (And.intro hal (And.intro hor (And.intro hown (And.intro hkb' hqk)))))
            have hLb : fctB ⟨⟨fi, fa, fs, fc⟩, fv⟩ = kb ++ (UInt8.ofNat L :: fv) := by
              show keyB ⟨fi, fa, fs, fc⟩ ++ (UInt8.ofNat fv.length :: fv) = _
              rw [hkb', hLL]
            have HLB := Lib.hid (And.intro hLb hLL)
            clear hm hfit hle hft hal hor hown hkb' hqk hLb hLL hos

            go_wp2_with fail
            refine (HP.out _).mono ?_
            rintro e w2 ⟨v2, rfl, ho2, hb2⟩
            obtain ⟨A2, d2', rfl, hrv2, _, _, _⟩ := ho2.slice
            have H2 := Lib.hid (And.intro (HM.out.1.step hb2) (And.intro ho2 (And.intro (HN.out.2.2.2.1.below hb2) (And.intro hrv2 trivial))))
            have hsg := hb2.size
            have hsw := H2.out.1.2.size
            clear ho2 hb2 hrv2 p0 p1 p2 p3 p4 m0 m1 m2 m3 m4
            dsimp only
            rw [HN.out.2.2.2.2.2]
            go_wp2_with fail
            generalize wr.heap.size = g0 at *

            have m0 : ∀ p : InC (fun w' => Below w2.heap.size w2 w'), p.w.cell? ⟨g0, 0, none⟩ = some (.int .i64 fi) := fun p => (H2.out.1.step p.h).cells.1
            have m1 : ∀ p : InC (fun w' => Below w2.heap.size w2 w'), p.w.cell? ⟨g0, 1, none⟩ = some (.int .u8 (fa.toNat : Int)) := fun p => (H2.out.1.step p.h).cells.2.1
            have m2 : ∀ p : InC (fun w' => Below w2.heap.size w2 w'), p.w.cell? ⟨g0, 2, none⟩ = some (.string fs) := fun p => (H2.out.1.step p.h).cells.2.2.1
            have m3 : ∀ p : InC (fun w' => Below w2.heap.size w2 w'), p.w.cell? ⟨g0, 3, none⟩ = some (.int .i64 fc) := fun p => (H2.out.1.step p.h).cells.2.2.2.1
            have m4 : ∀ p : InC (fun w' => Below w2.heap.size w2 w'), p.w.cell? ⟨g0, 4, none⟩ = some (.slice B1 L d1) := fun p => (H2.out.1.step p.h).cells.2.2.2.2

            have hinh : Nonempty (InC (fun w' => Below w2.heap.size w2 w')) := ⟨⟨w2, Below.refl _ _⟩⟩
            refine wp_region_class (fun w' => Below w2.heap.size w2 w') (by kernel_rfl) (by kernel_rfl) (Below.refl _ _).drew ?_
            repeat (go_big_quiet_step (fail))
            refine wpQuiet_nil ?_
            rintro _ ⟨p4', rfl⟩
            clear hinh m0 m1 m2 m3 m4
            have hb4 := p4'.h
            have hs4 := hb4.size
            generalize p4'.w = w4 at hb4 hs4 ⊢
            have HM4 := Lib.hid (And.intro (H2.out.1.step hb4) hb4)
            clear hb4

            have d4 : w4.cell? ⟨g0, 4, none⟩ = some (.slice B1 L d1) := HM4.out.1.cells.2.2.2.2
            go_wp2_with fail
            refine (putRow_at w4 B1 L d1 fv HLB.out.2 (HV.out.2.2.1.below HM4.out.1.2) (by omega)).mono ?_
            rintro e w5 ⟨v5, rfl, ho5, hb5⟩
            obtain ⟨A5, d5, rfl, hrv5, _, hm5, _⟩ := ho5.slice
            have hr5 : (UInt8.ofNat L :: fv).length = L + 1 := by rw [List.length_cons, HLB.out.2]
            generalize hZ : UInt8.ofNat L :: fv = Z at *
            have hbw5 := below_then HM4.out.2 hs4 hb5
            have hs5 := hb5.size
            have ha4 := H2.out.2.2.1.below HM4.out.2
            have hf2 : FarIn w5 A2 u6 := FarIn.own (H2.out.2.1.below hbw5) fun k e => (HM.out.2.blk e).2
            have hf5 : FarIn w5 A5 u6 := FarIn.own ho5 fun k e => (ha4.blk e).2
            have H5 := Lib.hid (And.intro (H2.out.2.2.1.below hbw5) (And.intro (H2.out.2.2.2.1.below hbw5) (And.intro hrv5 (And.intro hf5 (And.intro (below_then HM4.out.1.2 HM4.out.1.2.size hb5) (And.intro hr5 hZ))))))
            clear ho5 hb5 hrv5 hr5 hZ hbw5 ha4 hf2 hf5 d4
            dsimp only
            rw [H5.out.2.2.2.2.2.1]
            go_wp2_with (at_builtin; refine wpList_appB _ rfl _ _ 22 rfl w.heap.size 5 Try.underlying22 u8info u6 Y rfl H5.out.1 A2 qk d2' kb rfl HN.out.2.2.2.2.2 H5.out.2.1 ?_ ?_ ?_)
            · rw [HN.out.2.2.2.2.2]; omega
            · omega
            intro v6 w6 ho6 hg6 hv6
            have hb6 := H5.out.2.2.2.2.1.grown hg6 H5.out.2.2.2.2.1.size (fun k e => by have := (H5.out.1.blk e).1; omega)
            have hz6 := RV.far H5.out.2.2.1 H5.out.2.2.2.1 hg6
            obtain ⟨Y1, hY1⟩ : ∃ Y1, Y ++ kb = Y1 := ⟨_, rfl⟩
            have hl1' : Y1.length = Y.length + qk := by rw [← hY1, List.length_append, HN.out.2.2.2.2.2]
            rw [hY1] at ho6
            have HY1 := Lib.hid (And.intro hY1 hl1')
            have hs6 := hg6.size
            have H6 := Lib.hid (And.intro ho6 (And.intro hb6 hz6))
            clear hY1 hl1' ho6 hb6 hg6 hv6 hz6
            go_wp2_with (at_builtin; refine wpList_appB _ rfl _ _ 22 rfl w.heap.size 5 Try.underlying22 u8info v6 Y1 rfl H6.out.1 A5 (L + 1) d5 Z rfl H5.out.2.2.2.2.2.1 H6.out.2.2 ?_ ?_ ?_)
            · rw [HY1.out.2, H5.out.2.2.2.2.2.1]; omega
            · omega
            intro v7 w7 ho7 hg7 hv7
            have hb7 := H6.out.2.1.grown hg7 H6.out.2.1.size (fun k e => by have := (H6.out.1.blk e).1; omega)
            have heq : Y1 ++ Z = UInt8.ofNat n :: (l.take (j + 1)).flatMap fctB := by
              rw [HN.out.1, HLB.out.1, ← HY1.out.1, ← H5.out.2.2.2.2.2.2]
              simp
            rw [heq] at ho7
            have H7 := Lib.hid (And.intro ho7 hb7)
            clear ho7 hb7 hg7 hv7 heq
            go_wp2_with fail
            go_roundg (n - (j + 1))
            case measure => have := HX.out.1; omega
            case rel => exact ⟨j + 1, by have := HX.out.1; omega, by go_num, H7.out.1, H7.out.2, HN.out.2.1, HN.out.2.2.1⟩
          · have hkb := (keyB_length hm).2
            have hpk := HPK
            rw [show putKeyS ⟨fi, fa, fs, fc⟩ = (keyB ⟨fi, fa, fs, fc⟩, 0) from if_pos hm] at hpk
            have HP := Lib.hid hpk
            clear hpk HPK

            have t4 : decide (255 < L) = false := decide_eq_false (by omega)
            have t5 : decide ((255 : Int) < (L : Int)) = false := decide_eq_false (by omega)
            have t6 : decide (L < 1) = false := decide_eq_false (by omega)
            have t7 : decide ((L : Int) < 1) = false := decide_eq_false (by omega)

            have q3 : decide (0 < (j : Int)) = true := decide_eq_true (by omega)
            have q4 : decide (0 < j) = true := decide_eq_true (by omega)
            obtain ⟨q, hq⟩ : ∃ q, j = q + 1 := ⟨j - 1, by omega⟩
            have hwm : IntKind.i64.wrap ((j : Int) - 1) = (q : Int) := by rw [hq]; exact (IntWalk.i64_in _ (by omega)).trans (by omega)
            have hmn : (q : Int) < (n : Int) := by omega
            obtain ⟨x, hx⟩ : ∃ x, l[q]? = some x := ⟨_, List.getElem?_eq_getElem (by have := H.out.2.1; omega)⟩
            obtain ⟨okx, ad', B', d', hA', _, _, _, hblk', x0, x1, x2, x3, _⟩ := FctsIn.at_ H.out.1 hx
            injection hA' with hA'
            subst hA'
            have HXX := Lib.hid (And.intro hx (And.intro hblk' (And.intro x0 (And.intro x1 (And.intro x2 (And.intro x3 hq))))))
            clear x0 x1 x2 x3 hx hq
            obtain ⟨⟨xi, xa, xs, xc⟩, xv⟩ := x
            dsimp only at HXX
            have HKB := Lib.hid (fun w => beforeK_any w ⟨xi, xa, xs, xc⟩ ⟨fi, fa, fs, fc⟩)
            unfold Ky.val at HKB
            dsimp only at HKB
            have hlt' : keyLt ⟨xi, xa, xs, xc⟩ ⟨fi, fa, fs, fc⟩ := hos ⟨⟨xi, xa, xs, xc⟩, xv⟩ hj0 (by rw [HXX.out.2.2.2.2.2.2, Nat.add_sub_cancel]; exact HXX.out.1)
            rw [decide_eq_true hlt'] at HKB
            clear hlt'

            have hLL : fv.length = L := HV.out.2.2.2.1
            have hfit : fitF ⟨⟨fi, fa, fs, fc⟩, fv⟩ := ⟨hm, by show 1 ≤ fv.length; omega, by show fv.length ≤ 255; omega⟩
            have hle := flat_fct_le (l.take j) HX.out.2.2.2.1
            rw [List.length_take] at hle
            have hxl : (UInt8.ofNat n :: (l.take j).flatMap fctB).length ≤ 70000 := by rw [List.length_cons]; omega
            have hft : UInt8.ofNat n :: (l.take (j + 1)).flatMap fctB = (UInt8.ofNat n :: (l.take j).flatMap fctB) ++ fctB ⟨⟨fi, fa, fs, fc⟩, fv⟩ := by
              rw [List.take_add_one, HV.out.1, List.flatMap_append]
              simp
            have hal : ∀ x ∈ l.take (j + 1), fitF x := by
              intro x hx
              rw [List.take_add_one, HV.out.1] at hx
              rcases List.mem_append.1 hx with hx | hx
              · exact HX.out.2.2.2.1 x hx
              · simp at hx
                rw [hx]
                exact hfit
            have hor : ∀ i f, i < j + 1 → l[i]? = some f → ordStep l i f := by
              intro i f hi hf
              rcases Nat.lt_or_ge i j with h | h
              · exact HX.out.2.2.2.2 i f h hf
              · obtain rfl : i = j := by omega
                rw [HV.out.1] at hf
                cases hf
                exact hos
            have hown := HM.out.2
            generalize UInt8.ofNat n :: (l.take j).flatMap fctB = Y at hxl hft hown
            have hkk : keyB ⟨fi, fa, fs, fc⟩ = keyB ⟨fi, fa, fs, fc⟩ := rfl
            revert hkk
            generalize hkb' : keyB ⟨fi, fa, fs, fc⟩ = kb at HP hkb
            intro hkk
            clear hkk
            obtain ⟨qk, hqk⟩ : ∃ q, kb.length = q := ⟨_, rfl⟩
            rw [hqk] at hkb
            have HN := Lib.hid (And.intro hft (And.intro hal (And.intro hor (And.intro hown (And.intro hkb' hqk)))))
            have hLb : fctB ⟨⟨fi, fa, fs, fc⟩, fv⟩ = kb ++ (UInt8.ofNat L :: fv) := by
              show keyB ⟨fi, fa, fs, fc⟩ ++ (UInt8.ofNat fv.length :: fv) = _
              rw [hkb', hLL]
            have HLB := Lib.hid (And.intro hLb hLL)
            clear hm hfit hle hft hal hor hown hkb' hqk hLb hLL hos

            go_wp2_with fail
            refine (HP.out _).mono ?_
            rintro e w2 ⟨v2, rfl, ho2, hb2⟩
            obtain ⟨A2, d2', rfl, hrv2, _, _, _⟩ := ho2.slice
            have H2 := Lib.hid (And.intro (HM.out.1.step hb2) (And.intro ho2 (And.intro (HN.out.2.2.2.1.below hb2) (And.intro hrv2 trivial))))
            have hsg := hb2.size
            have hsw := H2.out.1.2.size
            clear ho2 hb2 hrv2 p0 p1 p2 p3 p4 m0 m1 m2 m3 m4
            dsimp only
            rw [HN.out.2.2.2.2.2]
            go_wp2_with fail
            generalize wr.heap.size = g0 at *

            have m0 : ∀ p : InC (fun w' => Below w2.heap.size w2 w'), p.w.cell? ⟨g0, 0, none⟩ = some (.int .i64 fi) := fun p => (H2.out.1.step p.h).cells.1
            have m1 : ∀ p : InC (fun w' => Below w2.heap.size w2 w'), p.w.cell? ⟨g0, 1, none⟩ = some (.int .u8 (fa.toNat : Int)) := fun p => (H2.out.1.step p.h).cells.2.1
            have m2 : ∀ p : InC (fun w' => Below w2.heap.size w2 w'), p.w.cell? ⟨g0, 2, none⟩ = some (.string fs) := fun p => (H2.out.1.step p.h).cells.2.2.1
            have m3 : ∀ p : InC (fun w' => Below w2.heap.size w2 w'), p.w.cell? ⟨g0, 3, none⟩ = some (.int .i64 fc) := fun p => (H2.out.1.step p.h).cells.2.2.2.1
            have m4 : ∀ p : InC (fun w' => Below w2.heap.size w2 w'), p.w.cell? ⟨g0, 4, none⟩ = some (.slice B1 L d1) := fun p => (H2.out.1.step p.h).cells.2.2.2.2
            have n0 : ∀ p : InC (fun w' => Below w2.heap.size w2 w'), p.w.cell? (ad.add (q * 5)) = some (.int .i64 xi) := fun p => (H2.out.1.step p.h).old HXX.out.2.2.1 hblk'
            have n1 : ∀ p : InC (fun w' => Below w2.heap.size w2 w'), p.w.cell? ⟨(ad.add (q * 5)).block, (ad.add (q * 5)).off + 1, none⟩ = some (.int .u8 (xa.toNat : Int)) := fun p => (H2.out.1.step p.h).old HXX.out.2.2.2.1 hblk'
            have n2 : ∀ p : InC (fun w' => Below w2.heap.size w2 w'), p.w.cell? ⟨(ad.add (q * 5)).block, (ad.add (q * 5)).off + 2, none⟩ = some (.string xs) := fun p => (H2.out.1.step p.h).old HXX.out.2.2.2.2.1 hblk'
            have n3 : ∀ p : InC (fun w' => Below w2.heap.size w2 w'), p.w.cell? ⟨(ad.add (q * 5)).block, (ad.add (q * 5)).off + 3, none⟩ = some (.int .i64 xc) := fun p => (H2.out.1.step p.h).old HXX.out.2.2.2.2.2.1 hblk'
            have hinh : Nonempty (InC (fun w' => Below w2.heap.size w2 w')) := ⟨⟨w2, Below.refl _ _⟩⟩
            refine wp_region_class (fun w' => Below w2.heap.size w2 w') (by kernel_rfl) (by kernel_rfl) (Below.refl _ _).drew ?_
            repeat (go_big_quiet_step (first | (go_at_call 37; rename_i p; exact class_call (HKB.out _) (fun _ hb => below_then p.h p.h.size hb))))
            refine wpQuiet_nil ?_
            rintro _ ⟨p4', rfl⟩
            clear hinh m0 m1 m2 m3 m4 n0 n1 n2 n3
            have hb4 := p4'.h
            have hs4 := hb4.size
            generalize p4'.w = w4 at hb4 hs4 ⊢
            have HM4 := Lib.hid (And.intro (H2.out.1.step hb4) hb4)
            clear hb4

            have d4 : w4.cell? ⟨g0, 4, none⟩ = some (.slice B1 L d1) := HM4.out.1.cells.2.2.2.2
            go_wp2_with fail
            refine (putRow_at w4 B1 L d1 fv HLB.out.2 (HV.out.2.2.1.below HM4.out.1.2) (by omega)).mono ?_
            rintro e w5 ⟨v5, rfl, ho5, hb5⟩
            obtain ⟨A5, d5, rfl, hrv5, _, hm5, _⟩ := ho5.slice
            have hr5 : (UInt8.ofNat L :: fv).length = L + 1 := by rw [List.length_cons, HLB.out.2]
            generalize hZ : UInt8.ofNat L :: fv = Z at *
            have hbw5 := below_then HM4.out.2 hs4 hb5
            have hs5 := hb5.size
            have ha4 := H2.out.2.2.1.below HM4.out.2
            have hf2 : FarIn w5 A2 u6 := FarIn.own (H2.out.2.1.below hbw5) fun k e => (HM.out.2.blk e).2
            have hf5 : FarIn w5 A5 u6 := FarIn.own ho5 fun k e => (ha4.blk e).2
            have H5 := Lib.hid (And.intro (H2.out.2.2.1.below hbw5) (And.intro (H2.out.2.2.2.1.below hbw5) (And.intro hrv5 (And.intro hf5 (And.intro (below_then HM4.out.1.2 HM4.out.1.2.size hb5) (And.intro hr5 hZ))))))
            clear ho5 hb5 hrv5 hr5 hZ hbw5 ha4 hf2 hf5 d4
            dsimp only
            rw [H5.out.2.2.2.2.2.1]
            go_wp2_with (at_builtin; refine wpList_appB _ rfl _ _ 22 rfl w.heap.size 5 Try.underlying22 u8info u6 Y rfl H5.out.1 A2 qk d2' kb rfl HN.out.2.2.2.2.2 H5.out.2.1 ?_ ?_ ?_)
            · rw [HN.out.2.2.2.2.2]; omega
            · omega
            intro v6 w6 ho6 hg6 hv6
            have hb6 := H5.out.2.2.2.2.1.grown hg6 H5.out.2.2.2.2.1.size (fun k e => by have := (H5.out.1.blk e).1; omega)
            have hz6 := RV.far H5.out.2.2.1 H5.out.2.2.2.1 hg6
            obtain ⟨Y1, hY1⟩ : ∃ Y1, Y ++ kb = Y1 := ⟨_, rfl⟩
            have hl1' : Y1.length = Y.length + qk := by rw [← hY1, List.length_append, HN.out.2.2.2.2.2]
            rw [hY1] at ho6
            have HY1 := Lib.hid (And.intro hY1 hl1')
            have hs6 := hg6.size
            have H6 := Lib.hid (And.intro ho6 (And.intro hb6 hz6))
            clear hY1 hl1' ho6 hb6 hg6 hv6 hz6
            go_wp2_with (at_builtin; refine wpList_appB _ rfl _ _ 22 rfl w.heap.size 5 Try.underlying22 u8info v6 Y1 rfl H6.out.1 A5 (L + 1) d5 Z rfl H5.out.2.2.2.2.2.1 H6.out.2.2 ?_ ?_ ?_)
            · rw [HY1.out.2, H5.out.2.2.2.2.2.1]; omega
            · omega
            intro v7 w7 ho7 hg7 hv7
            have hb7 := H6.out.2.1.grown hg7 H6.out.2.1.size (fun k e => by have := (H6.out.1.blk e).1; omega)
            have heq : Y1 ++ Z = UInt8.ofNat n :: (l.take (j + 1)).flatMap fctB := by
              rw [HN.out.1, HLB.out.1, ← HY1.out.1, ← H5.out.2.2.2.2.2.2]
              simp
            rw [heq] at ho7
            have H7 := Lib.hid (And.intro ho7 hb7)
            clear ho7 hb7 hg7 hv7 heq
            go_wp2_with fail
            go_roundg (n - (j + 1))
            case measure => have := HX.out.1; omega
            case rel => exact ⟨j + 1, by have := HX.out.1; omega, by go_num, H7.out.1, H7.out.2, HN.out.2.1, HN.out.2.2.1⟩
        · have hj0 : 0 < j := by
            rcases Nat.eq_zero_or_pos j with h | h
            · exact absurd (fun p hp => by omega) hos
            · exact h

          have hkb := (keyB_length hm).2
          have hpk := HPK
          rw [show putKeyS ⟨fi, fa, fs, fc⟩ = (keyB ⟨fi, fa, fs, fc⟩, 0) from if_pos hm] at hpk
          have HP := Lib.hid hpk
          clear hpk HPK

          have t4 : decide (255 < L) = false := decide_eq_false (by omega)
          have t5 : decide ((255 : Int) < (L : Int)) = false := decide_eq_false (by omega)
          have t6 : decide (L < 1) = false := decide_eq_false (by omega)
          have t7 : decide ((L : Int) < 1) = false := decide_eq_false (by omega)

          have q3 : decide (0 < (j : Int)) = true := decide_eq_true (by omega)
          have q4 : decide (0 < j) = true := decide_eq_true (by omega)
          obtain ⟨q, hq⟩ : ∃ q, j = q + 1 := ⟨j - 1, by omega⟩
          have hwm : IntKind.i64.wrap ((j : Int) - 1) = (q : Int) := by rw [hq]; exact (IntWalk.i64_in _ (by omega)).trans (by omega)
          have hmn : (q : Int) < (n : Int) := by omega
          obtain ⟨x, hx⟩ : ∃ x, l[q]? = some x := ⟨_, List.getElem?_eq_getElem (by have := H.out.2.1; omega)⟩
          obtain ⟨okx, ad', B', d', hA', _, _, _, hblk', x0, x1, x2, x3, _⟩ := FctsIn.at_ H.out.1 hx
          injection hA' with hA'
          subst hA'
          have HXX := Lib.hid (And.intro hx (And.intro hblk' (And.intro x0 (And.intro x1 (And.intro x2 (And.intro x3 hq))))))
          clear x0 x1 x2 x3 hx hq
          obtain ⟨⟨xi, xa, xs, xc⟩, xv⟩ := x
          dsimp only at HXX
          have HKB := Lib.hid (fun w => beforeK_any w ⟨xi, xa, xs, xc⟩ ⟨fi, fa, fs, fc⟩)
          unfold Ky.val at HKB
          dsimp only at HKB
          have hlt' : ¬ keyLt ⟨xi, xa, xs, xc⟩ ⟨fi, fa, fs, fc⟩ := fun hk => hos fun p _ hp => by
            rw [HXX.out.2.2.2.2.2.2, Nat.add_sub_cancel, HXX.out.1] at hp
            cases hp
            exact hk
          rw [decide_eq_false hlt'] at HKB
          have HF := Lib.hid (HBF.out.2 hos)
          clear hm hlt' hos

          go_wp2_with fail
          refine (HP.out _).mono ?_
          rintro e w2 ⟨v2, rfl, ho2, hb2⟩
          obtain ⟨A2, d2', rfl, hrv2, _, _, _⟩ := ho2.slice
          have H2 := Lib.hid (And.intro (HM.out.1.step hb2) (And.intro ho2 (And.intro (HM.out.2.below hb2) (And.intro hrv2 trivial))))
          have hsg := hb2.size
          have hsw := H2.out.1.2.size
          clear ho2 hb2 hrv2 p0 p1 p2 p3 p4 m0 m1 m2 m3 m4
          dsimp only
          skip
          go_wp2_with fail
          generalize wr.heap.size = g0 at *

          have m0 : ∀ p : InC (fun w' => Below w2.heap.size w2 w'), p.w.cell? ⟨g0, 0, none⟩ = some (.int .i64 fi) := fun p => (H2.out.1.step p.h).cells.1
          have m1 : ∀ p : InC (fun w' => Below w2.heap.size w2 w'), p.w.cell? ⟨g0, 1, none⟩ = some (.int .u8 (fa.toNat : Int)) := fun p => (H2.out.1.step p.h).cells.2.1
          have m2 : ∀ p : InC (fun w' => Below w2.heap.size w2 w'), p.w.cell? ⟨g0, 2, none⟩ = some (.string fs) := fun p => (H2.out.1.step p.h).cells.2.2.1
          have m3 : ∀ p : InC (fun w' => Below w2.heap.size w2 w'), p.w.cell? ⟨g0, 3, none⟩ = some (.int .i64 fc) := fun p => (H2.out.1.step p.h).cells.2.2.2.1
          have m4 : ∀ p : InC (fun w' => Below w2.heap.size w2 w'), p.w.cell? ⟨g0, 4, none⟩ = some (.slice B1 L d1) := fun p => (H2.out.1.step p.h).cells.2.2.2.2
          have n0 : ∀ p : InC (fun w' => Below w2.heap.size w2 w'), p.w.cell? (ad.add (q * 5)) = some (.int .i64 xi) := fun p => (H2.out.1.step p.h).old HXX.out.2.2.1 hblk'
          have n1 : ∀ p : InC (fun w' => Below w2.heap.size w2 w'), p.w.cell? ⟨(ad.add (q * 5)).block, (ad.add (q * 5)).off + 1, none⟩ = some (.int .u8 (xa.toNat : Int)) := fun p => (H2.out.1.step p.h).old HXX.out.2.2.2.1 hblk'
          have n2 : ∀ p : InC (fun w' => Below w2.heap.size w2 w'), p.w.cell? ⟨(ad.add (q * 5)).block, (ad.add (q * 5)).off + 2, none⟩ = some (.string xs) := fun p => (H2.out.1.step p.h).old HXX.out.2.2.2.2.1 hblk'
          have n3 : ∀ p : InC (fun w' => Below w2.heap.size w2 w'), p.w.cell? ⟨(ad.add (q * 5)).block, (ad.add (q * 5)).off + 3, none⟩ = some (.int .i64 xc) := fun p => (H2.out.1.step p.h).old HXX.out.2.2.2.2.2.1 hblk'
          have hinh : Nonempty (InC (fun w' => Below w2.heap.size w2 w')) := ⟨⟨w2, Below.refl _ _⟩⟩
          refine wp_region_class (fun w' => Below w2.heap.size w2 w') (by kernel_rfl) (by kernel_rfl) (Below.refl _ _).drew ?_
          repeat (go_big_quiet_step (first | (go_at_call 37; rename_i p; exact class_call (HKB.out _) (fun _ hb => below_then p.h p.h.size hb))))
          refine wpQuiet_nil ?_
          rintro _ ⟨p4', rfl⟩
          clear hinh m0 m1 m2 m3 m4 n0 n1 n2 n3
          have hb4 := p4'.h
          have hs4 := hb4.size
          generalize p4'.w = w4 at hb4 hs4 ⊢
          have HM4 := Lib.hid (And.intro (H2.out.1.step hb4) hb4)
          clear hb4

          go_wp2_with fail
          go_ret2
          rw [HF.out]
          exact ⟨_, rfl, OwnB.nil _ _ _, HM4.out.1.2⟩
      · obtain rfl : j = n := by have := HX.out.1; omega
        have hge : ¬ (j : Int) < (j : Int) := by omega
        have ho := HX.out.2.1
        have hall := HX.out.2.2.2.1
        rw [List.take_of_length_le (by have := H.out.2.1; omega)] at ho hall
        have hok : leafOk l := ⟨by have := H.out.2.1; omega, by have := H.out.2.1; omega, hall, (ordB_step l).2 fun i f hf => HX.out.2.2.2.2 i f (by have := (List.getElem?_eq_some_iff.1 hf).1; have := H.out.2.1; omega) hf⟩
        have hle := leafB_le hok
        have hlb : leafB l = UInt8.ofNat j :: l.flatMap fctB := by unfold leafB; rw [H.out.2.1]
        rw [← hlb] at ho
        have hrr : r = putPageS s 4 (leafB l) := by rw [← H.out.2.2.2]; exact if_pos hok
        generalize leafB l = X at *
        obtain ⟨A3, d3, rfl, hrv, hl, hm, _⟩ := ho.slice
        have HF := Lib.hid (And.intro hrr hrv)
        clear hall hok hlb ho hrr hrv
        go_wp2_with fail
        refine (putPage_any wr s 4 A3 d3 X HF.out.2 (Nat.le_trans hl hm)).mono ?_
        rintro e w3 ⟨v3, rfl, ho3, hb3⟩
        have H3 := Lib.hid (And.intro ho3 hb3)
        clear ho3 hb3
        go_wp2_with fail
        go_ret2
        rw [HF.out.1]
        exact ⟨_, rfl, H3.out.1.lower HX.out.2.2.1.size, below_then HX.out.2.2.1 HX.out.2.2.1.size H3.out.2⟩
  · have HF := Lib.hid (HBAD.out fun hb => by have := hb.2.1; have := H.out.2.1; omega)
    have t2 : decide (255 < n) = true := decide_eq_true (by omega)
    have t3 : decide ((255 : Int) < (n : Int)) = true := decide_eq_true (by omega)
    go_enter Try.func19, Try.ntmps19
    go_wp2_with fail
    go_ret2
    rw [HF.out]
    exact ⟨_, rfl, OwnB.nil _ _ _, Below.refl _ _⟩
end Go.Proofs.Ytegoeagmadhpgaa
