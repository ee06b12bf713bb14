import Derived.Test.YtlioclicopakbaaShSM
import Derived.Test.YtlioclicopakbaaMInt
import Derived.Test.YtlioclicopakbaaSizeBM
import Derived.Test.YtlioclicopakbaaKeyCM
import Derived.Test.YtlioclicopakbaaClsM
set_option linter.unusedVariables false
set_option linter.unusedSimpArgs false
/- Layer 16: contract of cut. -/
namespace Go.Proofs.Ytlioclicopakbaa
open Go.RowKit

theorem shCut_size (w : World) (s : Int) (A : Option Addr) (n d : Nat) (its : List (Ky × Nat)) (fv : Value) (least : Nat) (hs : ¬ (128 ≤ s ∧ s ≤ 256)) :
    Calls Try.prog 26 #[.int .i64 s, .slice A n d, fv, .int .i64 (least : Int)] w (IntsEnd w (shCut s its least)) := by
  have h1 : shCut s its least = ([], 2) := if_pos hs
  have h2 : bodyS s = 0 := if_neg hs
  rw [h1]
  have H := fun w => body_any s w
  rw [h2] at H
  have HB := Lib.hid H
  clear H h1 h2 hs
  go_enter Try.func26, Try.ntmps26
  go_wp2_with (go_at_call 42; refine (HB.out _).mono ?_; rintro e w1 ⟨rfl, rfl⟩)
  go_ret2
  exact ⟨_, rfl, OwnI.nil _ _ _, Below.refl _ _⟩

/-- A key's copy, what was before the call. -/
def KG (w w' : World) (g : Nat) (k : Ky) : Prop := Blk w' g 33 #[.int .i64 k.ino, .int .u8 (k.what.toNat : Int), .string k.name, .int .i64 k.chunk] ∧ Below w.heap.size w w'
theorem KG.step {w w1 w2 : World} {g : Nat} {k : Ky} (h : KG w w1 g k) (hb : Below w1.heap.size w1 w2) : KG w w2 g k := ⟨h.1.below hb h.1.lt, below_then h.2 h.2.size hb⟩
theorem KG.drew {w w1 : World} {g : Nat} {k : Ky} (h : KG w w1 g k) : KG w w1.drew g k := ⟨h.1, h.2.drew⟩
theorem KG.cells {w w1 : World} {g : Nat} {k : Ky} (h : KG w w1 g k) : w1.cell? ⟨g, 0, none⟩ = some (.int .i64 k.ino) ∧ w1.cell? ⟨g, 1, none⟩ = some (.int .u8 (k.what.toNat : Int)) ∧ w1.cell? ⟨g, 2, none⟩ = some (.string k.name) ∧ w1.cell? ⟨g, 3, none⟩ = some (.int .i64 k.chunk) := by
  refine ⟨?_, ?_, ?_, ?_⟩ <;> rw [h.1.cell] <;> rfl
theorem KG.old {w w1 : World} {g : Nat} {k : Ky} (h : KG w w1 g k) {p : Addr} {u : Value} (hu : w.cell? p = some u) (hp : p.block < w.heap.size) : w1.cell? p = some u := (World.cell?_of_block (h.2.block _ hp)).trans hu

/-- A row of the call's own lies elsewhere than a block that is laid behind it. -/
theorem kg_row {e : TypeId} {w : World} {base : Nat} {v : Value} {xs : List Nat} (h : OwnI e w base v xs) {g : Nat} (hg : w.heap.size = g) : some g ≠ v.ownBlock := fun e => by
  have := (h.blk e.symm).2
  omega

set_option maxRecDepth 100000 in
set_option maxHeartbeats 8000000 in
theorem shCut_ok (w : World) (s : Int) (A : Option Addr) (n d : Nat) (its : List (Ky × Nat)) (fid : Nat) (pv : Value) (least : Nat) (h : KeysIn w A n (its.map (·.1))) (hn : n * 40 ≤ 140737488351232) (hs : 128 ≤ s ∧ s ≤ 256)
    (hf : ∀ w', Below w.heap.size w w' → ∀ (i : Nat) (k : Ky) (c : Nat), its[i]? = some (k, c) → c ≤ 281474976710656 ∧ Calls Try.prog fid #[.int .i64 (i : Int), pv] w' fun e w'' => e = .returned (.int .i64 (c : Int)) ∧ Below w'.heap.size w' w'') (hl : least ≤ 2) (hcf : ∀ args w, (callFunc fid args).run Try.prog w = .ok (.enter fid args) w) :
    Calls Try.prog 26 #[.int .i64 s, .slice A n d, .func (.func fid) #[] #[pv], .int .i64 (least : Int)] w (IntsEnd w (shCut s its least)) := by
  have HCF := Lib.hid hcf
  clear hcf
  obtain ⟨r, hr⟩ : ∃ r, shCut s its least = r := ⟨_, rfl⟩
  rw [hr]
  unfold shCut at hr
  rw [if_neg (fun h => h hs)] at hr
  have h2 : (bodyS s : Int) - 1 = ((s.toNat - 6 : Nat) : Int) := by rw [show bodyS s = s.toNat - 5 from if_pos hs]; omega
  have hR : s.toNat - 6 ≤ 250 := by omega
  obtain ⟨b, hb⟩ : ∃ b, bodyS s = b := ⟨_, rfl⟩
  have HB := fun w => body_any s w
  rw [hb] at HB h2
  have HB := Lib.hid HB
  have hb5 : b = (s.toNat - 6) + 1 := by omega
  clear hb h2
  generalize s.toNat - 6 = R at *
  have HR := Lib.hid hr
  clear hr hs
  subst hb5
  have hlen : its.length = n := by have := h.1; simpa using this
  have H := Lib.hid (And.intro h (And.intro hlen hf))
  clear h hlen hf
  go_enter Try.func26, Try.ntmps26
  go_wp2_with (go_at_call 42; refine (HB.out _).mono ?_; rintro e w1 ⟨rfl, rfl⟩)
  go_loopg [26] n (fun k i wr => ∃ j : Nat, j + k = n ∧ i = .int .i64 j ∧ Below w.heap.size w wr ∧ ∀ i k, i < j → (its.map (·.1))[i]? = some k → kStep (its.map (·.1)) i k)
  case atStart => exact ⟨0, by omega, rfl, Below.refl _ _, fun i f h => by omega⟩
  case round =>
    obtain ⟨j, hj, rfl, hb, hall⟩ := hrel
    have HX := Lib.hid (And.intro hj (And.intro hb hall))
    clear hj hb hall
    by_cases hlt : j < n
    · obtain ⟨k, hk⟩ : ∃ k, (its.map (·.1))[j]? = some k := ⟨_, List.getElem?_eq_getElem (by have := H.out.2.1; rw [List.length_map]; omega)⟩
      obtain ⟨okk, ad, hA, hblk, x0, x1, x2, x3⟩ := KeysIn.at_ H.out.1 hk
      subst hA
      have up : ∀ {p : Addr} {u : Value}, w.cell? p = some u → p.block < w.heap.size → wr.cell? p = some u := fun hu hp => (World.cell?_of_block (HX.out.2.1.block _ hp)).trans hu
      have p0 := up x0 hblk
      have p1 := up x1 hblk
      have p2 := up x2 hblk
      have p3 := up x3 hblk
      have hG : KG w (wr.alloc (.cells #[.int .i64 k.ino, .int .u8 (k.what.toNat : Int), .string k.name, .int .i64 k.chunk] 33)) wr.heap.size k := ⟨Blk.new _ _ _, HX.out.2.1.alloc HX.out.2.1.size _⟩
      obtain ⟨m0, m1, m2, m3⟩ := hG.cells
      have HM := Lib.hid hG
      have HV := Lib.hid (And.intro hk okk)
      have HMK := Lib.hid (fun w => mayK_any w k okk)
      clear x0 x1 x2 x3 up hG hk okk
      have hjn : (j : Int) < (n : Int) := by omega
      obtain ⟨fi, fa, fs, fc⟩ := k
      unfold Ky.val at HMK
      dsimp only at p0 p1 p2 p3 m0 m1 m2 m3 HMK HM
      by_cases hmk : mayK ⟨fi, fa, fs, fc⟩
      · rw [decide_eq_true hmk] at HMK
        rcases Nat.eq_zero_or_pos j with hj0 | hj0
        · have q3 : decide (0 < (j : Int)) = false := decide_eq_false (by omega)
          have q4 : decide (0 < j) = false := decide_eq_false (by omega)
          have hst : kStep (its.map (·.1)) j ⟨fi, fa, fs, fc⟩ := ⟨hmk, fun p h => by omega⟩
          have HJ := Lib.hid hj0
          clear hmk hj0
          have hall : ∀ i k, i < j + 1 → (its.map (·.1))[i]? = some k → kStep (its.map (·.1)) i k := by
            intro i k hi hk
            rcases Nat.lt_or_ge i j with h | h
            · exact HX.out.2.2 i k h hk
            · obtain rfl : i = j := by omega
              rw [HV.out.1] at hk
              cases hk
              exact hst
          have HALL := Lib.hid hall
          clear hall hst
          go_wp2_with fail
          generalize wr.alloc (.cells #[.int .i64 fi, .int .u8 (fa.toNat : Int), .string fs, .int .i64 fc] 33) = w2 at *
          generalize wr.heap.size = g0 at *
          clear p0 p1 p2 p3
          have m0 : ∀ p : InC (fun w' => KG w w' g0 ⟨fi, fa, fs, fc⟩), p.w.cell? ⟨g0, 0, none⟩ = some (.int .i64 fi) := fun p => p.h.cells.1
          have m1 : ∀ p : InC (fun w' => KG w w' g0 ⟨fi, fa, fs, fc⟩), p.w.cell? ⟨g0, 1, none⟩ = some (.int .u8 (fa.toNat : Int)) := fun p => p.h.cells.2.1
          have m2 : ∀ p : InC (fun w' => KG w w' g0 ⟨fi, fa, fs, fc⟩), p.w.cell? ⟨g0, 2, none⟩ = some (.string fs) := fun p => p.h.cells.2.2.1
          have m3 : ∀ p : InC (fun w' => KG w w' g0 ⟨fi, fa, fs, fc⟩), p.w.cell? ⟨g0, 3, none⟩ = some (.int .i64 fc) := fun p => p.h.cells.2.2.2
          have hinh : Nonempty (InC (fun w' => KG w w' g0 ⟨fi, fa, fs, fc⟩)) := ⟨⟨_, HM.out⟩⟩
          refine wp_region_class (fun w' => KG w w' g0 ⟨fi, fa, fs, fc⟩) (by kernel_rfl) (by kernel_rfl) HM.out.drew ?_
          repeat (go_big_quiet_step ((first | (go_at_call 43; rename_i p; exact class_call (HMK.out _) (fun _ hb => p.h.step hb)))))
          refine wpQuiet_nil ?_
          rintro _ ⟨p4, rfl⟩
          clear hinh m0 m1 m2 m3
          have HM := Lib.hid p4.h
          generalize p4.w = w4 at HM ⊢
          go_wp2_with fail
          go_roundg (n - (j + 1))
          case measure => have := HX.out.1; omega
          case rel => exact ⟨j + 1, by have := HX.out.1; omega, by go_num, HM.out.2, HALL.out⟩
        · have q3 : decide (0 < (j : Int)) = true := decide_eq_true (by omega)
          obtain ⟨q, hq⟩ : ∃ q, j = q + 1 := ⟨j - 1, by omega⟩
          have hwm : IntKind.i64.wrap ((j : Int) - 1) = (q : Int) := by rw [hq]; exact (IntWalk.i64_in _ (by omega)).trans (by omega)
          have hmn : (q : Int) < (n : Int) := by omega
          obtain ⟨x, hx⟩ : ∃ x, (its.map (·.1))[q]? = some x := ⟨_, List.getElem?_eq_getElem (by have := H.out.2.1; rw [List.length_map]; omega)⟩
          obtain ⟨okx, ad', hA', hblk', x0, x1, x2, x3⟩ := KeysIn.at_ H.out.1 hx
          injection hA' with hA'
          subst hA'
          have HXX := Lib.hid (And.intro hx (And.intro hblk' (And.intro x0 (And.intro x1 (And.intro x2 (And.intro x3 hq))))))
          clear x0 x1 x2 x3 hx hq
          obtain ⟨xi, xa, xs, xc⟩ := x
          dsimp only at HXX
          have HKB := Lib.hid (fun w => beforeK_any w ⟨xi, xa, xs, xc⟩ ⟨fi, fa, fs, fc⟩)
          unfold Ky.val at HKB
          dsimp only at HKB
          by_cases hlt' : keyLt ⟨xi, xa, xs, xc⟩ ⟨fi, fa, fs, fc⟩
          · have hst : kStep (its.map (·.1)) j ⟨fi, fa, fs, fc⟩ := ⟨hmk, fun p _ hp => by
              have hx := HXX.out.1
              rw [HXX.out.2.2.2.2.2.2, Nat.add_sub_cancel, hx] at hp
              cases hp
              exact hlt'⟩
            rw [decide_eq_true hlt'] at HKB
            clear hmk hlt'
            have hall : ∀ i k, i < j + 1 → (its.map (·.1))[i]? = some k → kStep (its.map (·.1)) i k := by
              intro i k hi hk
              rcases Nat.lt_or_ge i j with h | h
              · exact HX.out.2.2 i k h hk
              · obtain rfl : i = j := by omega
                rw [HV.out.1] at hk
                cases hk
                exact hst
            have HALL := Lib.hid hall
            clear hall hst
            go_wp2_with fail
            generalize wr.alloc (.cells #[.int .i64 fi, .int .u8 (fa.toNat : Int), .string fs, .int .i64 fc] 33) = w2 at *
            generalize wr.heap.size = g0 at *
            clear p0 p1 p2 p3
            have m0 : ∀ p : InC (fun w' => KG w w' g0 ⟨fi, fa, fs, fc⟩), p.w.cell? ⟨g0, 0, none⟩ = some (.int .i64 fi) := fun p => p.h.cells.1
            have m1 : ∀ p : InC (fun w' => KG w w' g0 ⟨fi, fa, fs, fc⟩), p.w.cell? ⟨g0, 1, none⟩ = some (.int .u8 (fa.toNat : Int)) := fun p => p.h.cells.2.1
            have m2 : ∀ p : InC (fun w' => KG w w' g0 ⟨fi, fa, fs, fc⟩), p.w.cell? ⟨g0, 2, none⟩ = some (.string fs) := fun p => p.h.cells.2.2.1
            have m3 : ∀ p : InC (fun w' => KG w w' g0 ⟨fi, fa, fs, fc⟩), p.w.cell? ⟨g0, 3, none⟩ = some (.int .i64 fc) := fun p => p.h.cells.2.2.2
            have n0 : ∀ p : InC (fun w' => KG w w' g0 ⟨fi, fa, fs, fc⟩), p.w.cell? (ad.add (q * 4)) = some (.int .i64 xi) := fun p => p.h.old HXX.out.2.2.1 hblk'
            have n1 : ∀ p : InC (fun w' => KG w w' g0 ⟨fi, fa, fs, fc⟩), p.w.cell? ⟨(ad.add (q * 4)).block, (ad.add (q * 4)).off + 1, none⟩ = some (.int .u8 (xa.toNat : Int)) := fun p => p.h.old HXX.out.2.2.2.1 hblk'
            have n2 : ∀ p : InC (fun w' => KG w w' g0 ⟨fi, fa, fs, fc⟩), p.w.cell? ⟨(ad.add (q * 4)).block, (ad.add (q * 4)).off + 2, none⟩ = some (.string xs) := fun p => p.h.old HXX.out.2.2.2.2.1 hblk'
            have n3 : ∀ p : InC (fun w' => KG w w' g0 ⟨fi, fa, fs, fc⟩), p.w.cell? ⟨(ad.add (q * 4)).block, (ad.add (q * 4)).off + 3, none⟩ = some (.int .i64 xc) := fun p => p.h.old HXX.out.2.2.2.2.2.1 hblk'
            have hinh : Nonempty (InC (fun w' => KG w w' g0 ⟨fi, fa, fs, fc⟩)) := ⟨⟨_, HM.out⟩⟩
            refine wp_region_class (fun w' => KG w w' g0 ⟨fi, fa, fs, fc⟩) (by kernel_rfl) (by kernel_rfl) HM.out.drew ?_
            repeat (go_big_quiet_step ((first | (go_at_call 43; rename_i p; exact class_call (HMK.out _) (fun _ hb => p.h.step hb)) | (go_at_call 44; rename_i p; exact class_call (HKB.out _) (fun _ hb => p.h.step hb)))))
            refine wpQuiet_nil ?_
            rintro _ ⟨p4, rfl⟩
            clear hinh m0 m1 m2 m3 n0 n1 n2 n3
            have HM := Lib.hid p4.h
            generalize p4.w = w4 at HM ⊢
            go_wp2_with fail
            go_roundg (n - (j + 1))
            case measure => have := HX.out.1; omega
            case rel => exact ⟨j + 1, by have := HX.out.1; omega, by go_num, HM.out.2, HALL.out⟩
          · rw [decide_eq_false hlt'] at HKB
            have hrr : r = ([], 2) := by
              rw [← HR.out, if_pos (fun hg => hlt' (((goodKs_iff _).1 hg j _ HV.out.1).2 _ hj0 (by rw [HXX.out.2.2.2.2.2.2, Nat.add_sub_cancel]; exact HXX.out.1)))]
            have HRR := Lib.hid hrr
            clear hrr hmk hlt'
            go_wp2_with fail
            generalize wr.alloc (.cells #[.int .i64 fi, .int .u8 (fa.toNat : Int), .string fs, .int .i64 fc] 33) = w2 at *
            generalize wr.heap.size = g0 at *
            clear p0 p1 p2 p3
            have m0 : ∀ p : InC (fun w' => KG w w' g0 ⟨fi, fa, fs, fc⟩), p.w.cell? ⟨g0, 0, none⟩ = some (.int .i64 fi) := fun p => p.h.cells.1
            have m1 : ∀ p : InC (fun w' => KG w w' g0 ⟨fi, fa, fs, fc⟩), p.w.cell? ⟨g0, 1, none⟩ = some (.int .u8 (fa.toNat : Int)) := fun p => p.h.cells.2.1
            have m2 : ∀ p : InC (fun w' => KG w w' g0 ⟨fi, fa, fs, fc⟩), p.w.cell? ⟨g0, 2, none⟩ = some (.string fs) := fun p => p.h.cells.2.2.1
            have m3 : ∀ p : InC (fun w' => KG w w' g0 ⟨fi, fa, fs, fc⟩), p.w.cell? ⟨g0, 3, none⟩ = some (.int .i64 fc) := fun p => p.h.cells.2.2.2
            have n0 : ∀ p : InC (fun w' => KG w w' g0 ⟨fi, fa, fs, fc⟩), p.w.cell? (ad.add (q * 4)) = some (.int .i64 xi) := fun p => p.h.old HXX.out.2.2.1 hblk'
            have n1 : ∀ p : InC (fun w' => KG w w' g0 ⟨fi, fa, fs, fc⟩), p.w.cell? ⟨(ad.add (q * 4)).block, (ad.add (q * 4)).off + 1, none⟩ = some (.int .u8 (xa.toNat : Int)) := fun p => p.h.old HXX.out.2.2.2.1 hblk'
            have n2 : ∀ p : InC (fun w' => KG w w' g0 ⟨fi, fa, fs, fc⟩), p.w.cell? ⟨(ad.add (q * 4)).block, (ad.add (q * 4)).off + 2, none⟩ = some (.string xs) := fun p => p.h.old HXX.out.2.2.2.2.1 hblk'
            have n3 : ∀ p : InC (fun w' => KG w w' g0 ⟨fi, fa, fs, fc⟩), p.w.cell? ⟨(ad.add (q * 4)).block, (ad.add (q * 4)).off + 3, none⟩ = some (.int .i64 xc) := fun p => p.h.old HXX.out.2.2.2.2.2.1 hblk'
            have hinh : Nonempty (InC (fun w' => KG w w' g0 ⟨fi, fa, fs, fc⟩)) := ⟨⟨_, HM.out⟩⟩
            refine wp_region_class (fun w' => KG w w' g0 ⟨fi, fa, fs, fc⟩) (by kernel_rfl) (by kernel_rfl) HM.out.drew ?_
            repeat (go_big_quiet_step ((first | (go_at_call 43; rename_i p; exact class_call (HMK.out _) (fun _ hb => p.h.step hb)) | (go_at_call 44; rename_i p; exact class_call (HKB.out _) (fun _ hb => p.h.step hb)))))
            refine wpQuiet_nil ?_
            rintro _ ⟨p4, rfl⟩
            clear hinh m0 m1 m2 m3 n0 n1 n2 n3
            have HM := Lib.hid p4.h
            generalize p4.w = w4 at HM ⊢
            go_wp2_with fail
            go_ret2
            rw [HRR.out]
            exact ⟨_, rfl, OwnI.nil _ _ _, HM.out.2⟩
      · rw [decide_eq_false hmk] at HMK
        have hrr : r = ([], 2) := by
          rw [← HR.out, if_pos (fun hg => hmk ((goodKs_iff _).1 hg j _ HV.out.1).1)]
        have HRR := Lib.hid hrr
        clear hrr hmk
        go_wp2_with fail
        generalize wr.alloc (.cells #[.int .i64 fi, .int .u8 (fa.toNat : Int), .string fs, .int .i64 fc] 33) = w2 at *
        generalize wr.heap.size = g0 at *
        clear p0 p1 p2 p3
        have m0 : ∀ p : InC (fun w' => KG w w' g0 ⟨fi, fa, fs, fc⟩), p.w.cell? ⟨g0, 0, none⟩ = some (.int .i64 fi) := fun p => p.h.cells.1
        have m1 : ∀ p : InC (fun w' => KG w w' g0 ⟨fi, fa, fs, fc⟩), p.w.cell? ⟨g0, 1, none⟩ = some (.int .u8 (fa.toNat : Int)) := fun p => p.h.cells.2.1
        have m2 : ∀ p : InC (fun w' => KG w w' g0 ⟨fi, fa, fs, fc⟩), p.w.cell? ⟨g0, 2, none⟩ = some (.string fs) := fun p => p.h.cells.2.2.1
        have m3 : ∀ p : InC (fun w' => KG w w' g0 ⟨fi, fa, fs, fc⟩), p.w.cell? ⟨g0, 3, none⟩ = some (.int .i64 fc) := fun p => p.h.cells.2.2.2
        have hinh : Nonempty (InC (fun w' => KG w w' g0 ⟨fi, fa, fs, fc⟩)) := ⟨⟨_, HM.out⟩⟩
        refine wp_region_class (fun w' => KG w w' g0 ⟨fi, fa, fs, fc⟩) (by kernel_rfl) (by kernel_rfl) HM.out.drew ?_
        repeat (go_big_quiet_step ((first | (go_at_call 43; rename_i p; exact class_call (HMK.out _) (fun _ hb => p.h.step hb)))))
        refine wpQuiet_nil ?_
        rintro _ ⟨p4, rfl⟩
        clear hinh m0 m1 m2 m3
        have HM := Lib.hid p4.h
        generalize p4.w = w4 at HM ⊢
        go_wp2_with fail
        go_ret2
        rw [HRR.out]
        exact ⟨_, rfl, OwnI.nil _ _ _, HM.out.2⟩
    · obtain rfl : j = n := by have := HX.out.1; omega
      have hgood : goodKs (its.map (·.1)) := (goodKs_iff _).2 fun i f hf => HX.out.2.2 i f (by have := (List.getElem?_eq_some_iff.1 hf).1; rw [List.length_map] at this; have := H.out.2.1; omega) hf
      have hge : ¬ (j : Int) < (j : Int) := by omega
      have hr := HR.out
      rw [if_neg (fun h => h hgood)] at hr
      have HRR := Lib.hid hr
      clear hr hgood
      obtain ⟨ii, iz, hii, hiz, hi1, hi2, hi3⟩ := int_info'
      have HXB := Lib.hid HX.out.2.1
      clear HX
      go_wp2_with fail
      go_loopg [13, 14, 15, 52] j (fun k o mm lf i wr => ∃ (q m f : Nat) (acc : List Nat), q + k = j ∧ i = .int .i64 q ∧ mm = .int .i64 m ∧ lf = .int .i64 f ∧ OwnI 3 wr w.heap.size o acc ∧ Below w.heap.size w wr ∧ (shGo R least (its.drop q) m f).map (acc ++ ·) = shGo R least its 0 R ∧ acc.length ≤ 2 * q ∧ m ≤ 255 ∧ f ≤ R)
      case atStart => exact ⟨0, 0, R, [], by omega, rfl, rfl, rfl, OwnI.nil _ _ _, HXB.out, by simp, by simp, by omega, by omega⟩
      case round =>
        obtain ⟨q, m, f, acc, hq, rfl, rfl, rfl, ho, hb, heq, hac, hm255, hfR⟩ := hrel
        have HX := Lib.hid (And.intro hq (And.intro ho (And.intro hb heq)))
        clear hq ho hb heq
        by_cases hlt2 : q < j
        · have hqj : (q : Int) < (j : Int) := by omega
          obtain ⟨⟨k, c⟩, hk⟩ : ∃ k, its[q]? = some k := ⟨_, List.getElem?_eq_getElem (by have := H.out.2.1; omega)⟩
          obtain ⟨okk, ad, hA, hblk, x0, x1, x2, x3⟩ := KeysIn.at_ H.out.1 (show (its.map (·.1))[q]? = some k by rw [List.getElem?_map, hk]; rfl)
          subst hA
          have up : ∀ {p : Addr} {u : Value}, w.cell? p = some u → p.block < w.heap.size → wr.cell? p = some u := fun hu hp => (World.cell?_of_block (HX.out.2.2.1.block _ hp)).trans hu
          have p0 := up x0 hblk
          have p1 := up x1 hblk
          have p2 := up x2 hblk
          have p3 := up x3 hblk
          have hd : its.drop q = (k, c) :: its.drop (q + 1) := by
            have h1 := (List.getElem?_eq_some_iff.1 hk)
            obtain ⟨h2, h3⟩ := h1
            rw [List.drop_eq_getElem_cons h2, h3]
          have heq := HX.out.2.2.2
          rw [hd, shGo] at heq
          have hG : KG w (wr.alloc (.cells #[.int .i64 k.ino, .int .u8 (k.what.toNat : Int), .string k.name, .int .i64 k.chunk] 33)) wr.heap.size k := ⟨Blk.new _ _ _, HX.out.2.2.1.alloc HX.out.2.2.1.size _⟩
          obtain ⟨hcb, hcall⟩ := H.out.2.2 _ hG.2 q k c hk
          have hoA : OwnI 3 (wr.alloc (.cells #[.int .i64 k.ino, .int .u8 (k.what.toNat : Int), .string k.name, .int .i64 k.chunk] 33)) w.heap.size u13 acc := HX.out.2.1.below ((Below.refl _ _).alloc (Nat.le_refl _) _)
          have HG := Lib.hid (And.intro hG (And.intro hcall (And.intro hoA okk)))
          have HE := Lib.hid (fun w => endK_any w k okk)
          obtain ⟨en, hen⟩ : ∃ en, endS k = en := ⟨_, rfl⟩
          rw [hen] at HE heq
          clear x0 x1 x2 x3 up hk okk hd hG hcall hen hoA
          obtain ⟨fi, fa, fs, fc⟩ := k
          unfold Ky.val at HE
          dsimp only at p0 p1 p2 p3 HG HE
          by_cases hRc : R < c
          · rw [if_pos hRc] at heq
            have hr : r = ([], 3) := by
              rw [← HRR.out, ← heq]
              rfl
            have HF := Lib.hid hr
            have hRcI : (R : Int) < (c : Int) := by omega
            clear heq hr
            go_wp2_with fail
            rw [HCF.out, Oper.upon_enter]
            refine HG.out.2.1.mono ?_
            rintro e w1 ⟨rfl, hb1⟩
            have hG1 := HG.out.1.step hb1
            have H1 := Lib.hid hG1
            clear hG1 hb1 p0 p1 p2 p3
            go_wp2_with fail
            go_ret2
            rw [HF.out]
            exact ⟨_, rfl, OwnI.nil _ _ _, H1.out.2⟩
          · rw [if_neg hRc] at heq
            have hRcI : ¬ (R : Int) < (c : Int) := by omega
            have hfl : (f < c) ∨ (¬ f < c ∧ m = 255) ∨ (¬ f < c ∧ m ≠ 255) := by omega
            rcases hfl with hf1 | ⟨hf1, hf2⟩ | ⟨hf1, hf2⟩
            · rw [if_pos (.inl hf1)] at heq
              have hfI : decide ((f : Int) < (c : Int)) = true := decide_eq_true (by omega)
              have hfN : decide (f < c) = true := decide_eq_true (by omega)
              have hend : (¬ least ≤ 1) ∨ (least ≤ 1 ∧ en = false) ∨ (least ≤ 1 ∧ en = true) := by
                cases en
                · by_cases h : least ≤ 1 <;> simp [h]
                · by_cases h : least ≤ 1 <;> simp [h]
              rcases hend with he1 | ⟨he1, he2⟩ | ⟨he1, he2⟩
              · rw [if_neg (fun h => he1 h.1)] at heq
                have hgeI : decide ((least : Int) ≤ 1) = false := decide_eq_false (by omega)
                have hgeN : decide (least ≤ 1) = false := decide_eq_false (by omega)
                have HQ := Lib.hid (And.intro heq he1)
                clear heq he1
                go_wp2_with fail
                rw [HCF.out, Oper.upon_enter]
                refine HG.out.2.1.mono ?_
                rintro e w1 ⟨rfl, hb1⟩
                have hG1 := HG.out.1.step hb1
                have H1 := Lib.hid (And.intro hG1 (HG.out.2.2.1.below hb1))
                obtain ⟨z0, z1, z2, z3⟩ := hG1.cells
                dsimp only at z0 z1 z2 z3
                clear hG1 hb1 p0 p1 p2 p3
                go_wp2_with (at_builtin; refine wpList_appI w1 rfl _ _ 23 rfl w.heap.size 3 ii iz Try.underlying23 hii hiz hi1 hi2 hi3 u13 acc rfl H1.out.2 m _ rfl rfl ?_ ?_ ?_)
                · omega
                · exact H1.out.1.2.size
                intro v2 w2 ho2 hg2
                have hG2 : KG w w2 wr.heap.size ⟨fi, fa, fs, fc⟩ := ⟨H1.out.1.1.grown hg2 (kg_row HX.out.2.1 rfl), H1.out.1.2.grown hg2 H1.out.1.2.size (fun k e => (H1.out.2.blk e).1)⟩
                have H2 := Lib.hid (And.intro hG2 ho2)
                obtain ⟨z0, z1, z2, z3⟩ := hG2.cells
                dsimp only at z0 z1 z2 z3
                clear hG2 ho2 hg2
                go_wp2_with fail
                go_roundg (j - (q + 1))
                case measure => have := HX.out.1; omega
                case rel => exact ⟨q + 1, 1, (R - c), (acc ++ [m]), by have := HX.out.1; omega, by go_num, by go_num, by go_num, H2.out.2, H2.out.1.2, by rw [← HQ.out.1]; simp [Option.map_map, Function.comp_def, List.append_assoc], by simp; omega, by omega, by omega⟩
              · rw [if_neg (by rw [he2]; exact fun h => by cases h.2)] at heq
                have hgeI : decide ((least : Int) ≤ 1) = true := decide_eq_true (by omega)
                have hgeN : decide (least ≤ 1) = true := decide_eq_true (by omega)
                have HQ := Lib.hid (And.intro heq he1)
                clear heq he1
                subst he2
                go_wp2_with fail
                rw [HCF.out, Oper.upon_enter]
                refine HG.out.2.1.mono ?_
                rintro e w1 ⟨rfl, hb1⟩
                have hG1 := HG.out.1.step hb1
                have H1 := Lib.hid (And.intro hG1 (HG.out.2.2.1.below hb1))
                obtain ⟨z0, z1, z2, z3⟩ := hG1.cells
                dsimp only at z0 z1 z2 z3
                clear hG1 hb1 p0 p1 p2 p3
                go_wp2_with (at_builtin; refine wpList_appI w1 rfl _ _ 23 rfl w.heap.size 3 ii iz Try.underlying23 hii hiz hi1 hi2 hi3 u13 acc rfl H1.out.2 m _ rfl rfl ?_ ?_ ?_)
                · omega
                · exact H1.out.1.2.size
                intro v2 w2 ho2 hg2
                have hG2 : KG w w2 wr.heap.size ⟨fi, fa, fs, fc⟩ := ⟨H1.out.1.1.grown hg2 (kg_row HX.out.2.1 rfl), H1.out.1.2.grown hg2 H1.out.1.2.size (fun k e => (H1.out.2.blk e).1)⟩
                have H2 := Lib.hid (And.intro hG2 ho2)
                obtain ⟨z0, z1, z2, z3⟩ := hG2.cells
                dsimp only at z0 z1 z2 z3
                clear hG2 ho2 hg2
                go_wp2_with fail
                refine (HE.out w2).mono ?_
                rintro e w3 ⟨rfl, hb3⟩
                have H3 := Lib.hid (And.intro (H2.out.2.below hb3) (below_then H2.out.1.2 H2.out.1.2.size hb3))
                clear hb3 z0 z1 z2 z3
                go_wp2_with fail
                go_roundg (j - (q + 1))
                case measure => have := HX.out.1; omega
                case rel => exact ⟨q + 1, 1, (R - c), (acc ++ [m]), by have := HX.out.1; omega, by go_num, by go_num, by go_num, H3.out.1, H3.out.2, by rw [← HQ.out.1]; simp [Option.map_map, Function.comp_def, List.append_assoc], by simp; omega, by omega, by omega⟩
              · rw [if_pos ⟨he1, he2⟩] at heq
                have hgeI : decide ((least : Int) ≤ 1) = true := decide_eq_true (by omega)
                have hgeN : decide (least ≤ 1) = true := decide_eq_true (by omega)
                have HQ := Lib.hid (And.intro heq he1)
                clear heq he1
                subst he2
                go_wp2_with fail
                rw [HCF.out, Oper.upon_enter]
                refine HG.out.2.1.mono ?_
                rintro e w1 ⟨rfl, hb1⟩
                have hG1 := HG.out.1.step hb1
                have H1 := Lib.hid (And.intro hG1 (HG.out.2.2.1.below hb1))
                obtain ⟨z0, z1, z2, z3⟩ := hG1.cells
                dsimp only at z0 z1 z2 z3
                clear hG1 hb1 p0 p1 p2 p3
                go_wp2_with (at_builtin; refine wpList_appI w1 rfl _ _ 23 rfl w.heap.size 3 ii iz Try.underlying23 hii hiz hi1 hi2 hi3 u13 acc rfl H1.out.2 m _ rfl rfl ?_ ?_ ?_)
                · omega
                · exact H1.out.1.2.size
                intro v2 w2 ho2 hg2
                have hG2 : KG w w2 wr.heap.size ⟨fi, fa, fs, fc⟩ := ⟨H1.out.1.1.grown hg2 (kg_row HX.out.2.1 rfl), H1.out.1.2.grown hg2 H1.out.1.2.size (fun k e => (H1.out.2.blk e).1)⟩
                have H2 := Lib.hid (And.intro hG2 ho2)
                obtain ⟨z0, z1, z2, z3⟩ := hG2.cells
                dsimp only at z0 z1 z2 z3
                clear hG2 ho2 hg2
                go_wp2_with fail
                refine (HE.out w2).mono ?_
                rintro e w3 ⟨rfl, hb3⟩
                have H3 := Lib.hid (And.intro (H2.out.2.below hb3) (below_then H2.out.1.2 H2.out.1.2.size hb3))
                clear hb3 z0 z1 z2 z3
                go_wp2_with (at_builtin; refine wpList_appI w3 rfl _ _ 23 rfl w.heap.size 3 ii iz Try.underlying23 hii hiz hi1 hi2 hi3 v2 (acc ++ [m]) rfl H3.out.1 1 _ rfl rfl ?_ ?_ ?_)
                · rw [List.length_append]; simp; omega
                · exact H3.out.2.size
                intro v4 w4 ho4 hg4
                have H4 := Lib.hid (And.intro ho4 (H3.out.2.grown hg4 H3.out.2.size (fun k e => (H3.out.1.blk e).1)))
                clear ho4 hg4
                go_wp2_with fail
                go_roundg (j - (q + 1))
                case measure => have := HX.out.1; omega
                case rel => exact ⟨q + 1, 0, R, (acc ++ [m, 1]), by have := HX.out.1; omega, by go_num, by go_num, by go_num, H4.out.1, H4.out.2, by rw [← HQ.out.1]; simp [Option.map_map, Function.comp_def, List.append_assoc], by simp; omega, by omega, by omega⟩
            · rw [if_pos (.inr hf2)] at heq
              have hfI : decide ((f : Int) < (c : Int)) = false := decide_eq_false (by omega)
              have hfN : decide (f < c) = false := decide_eq_false (by omega)
              have hmI : ((m : Int) == 255) = true := by rw [hf2]; rfl
              have HM5 := Lib.hid hf2
              clear hf2
              have hend : (¬ least ≤ 1) ∨ (least ≤ 1 ∧ en = false) ∨ (least ≤ 1 ∧ en = true) := by
                cases en
                · by_cases h : least ≤ 1 <;> simp [h]
                · by_cases h : least ≤ 1 <;> simp [h]
              rcases hend with he1 | ⟨he1, he2⟩ | ⟨he1, he2⟩
              · rw [if_neg (fun h => he1 h.1)] at heq
                have hgeI : decide ((least : Int) ≤ 1) = false := decide_eq_false (by omega)
                have hgeN : decide (least ≤ 1) = false := decide_eq_false (by omega)
                have HQ := Lib.hid (And.intro heq he1)
                clear heq he1
                go_wp2_with fail
                rw [HCF.out, Oper.upon_enter]
                refine HG.out.2.1.mono ?_
                rintro e w1 ⟨rfl, hb1⟩
                have hG1 := HG.out.1.step hb1
                have H1 := Lib.hid (And.intro hG1 (HG.out.2.2.1.below hb1))
                obtain ⟨z0, z1, z2, z3⟩ := hG1.cells
                dsimp only at z0 z1 z2 z3
                clear hG1 hb1 p0 p1 p2 p3
                go_wp2_with (at_builtin; refine wpList_appI w1 rfl _ _ 23 rfl w.heap.size 3 ii iz Try.underlying23 hii hiz hi1 hi2 hi3 u13 acc rfl H1.out.2 m _ rfl rfl ?_ ?_ ?_)
                · omega
                · exact H1.out.1.2.size
                intro v2 w2 ho2 hg2
                have hG2 : KG w w2 wr.heap.size ⟨fi, fa, fs, fc⟩ := ⟨H1.out.1.1.grown hg2 (kg_row HX.out.2.1 rfl), H1.out.1.2.grown hg2 H1.out.1.2.size (fun k e => (H1.out.2.blk e).1)⟩
                have H2 := Lib.hid (And.intro hG2 ho2)
                obtain ⟨z0, z1, z2, z3⟩ := hG2.cells
                dsimp only at z0 z1 z2 z3
                clear hG2 ho2 hg2
                go_wp2_with fail
                go_roundg (j - (q + 1))
                case measure => have := HX.out.1; omega
                case rel => exact ⟨q + 1, 1, (R - c), (acc ++ [m]), by have := HX.out.1; omega, by go_num, by go_num, by go_num, H2.out.2, H2.out.1.2, by rw [← HQ.out.1]; simp [Option.map_map, Function.comp_def, List.append_assoc], by simp; omega, by omega, by omega⟩
              · rw [if_neg (by rw [he2]; exact fun h => by cases h.2)] at heq
                have hgeI : decide ((least : Int) ≤ 1) = true := decide_eq_true (by omega)
                have hgeN : decide (least ≤ 1) = true := decide_eq_true (by omega)
                have HQ := Lib.hid (And.intro heq he1)
                clear heq he1
                subst he2
                go_wp2_with fail
                rw [HCF.out, Oper.upon_enter]
                refine HG.out.2.1.mono ?_
                rintro e w1 ⟨rfl, hb1⟩
                have hG1 := HG.out.1.step hb1
                have H1 := Lib.hid (And.intro hG1 (HG.out.2.2.1.below hb1))
                obtain ⟨z0, z1, z2, z3⟩ := hG1.cells
                dsimp only at z0 z1 z2 z3
                clear hG1 hb1 p0 p1 p2 p3
                go_wp2_with (at_builtin; refine wpList_appI w1 rfl _ _ 23 rfl w.heap.size 3 ii iz Try.underlying23 hii hiz hi1 hi2 hi3 u13 acc rfl H1.out.2 m _ rfl rfl ?_ ?_ ?_)
                · omega
                · exact H1.out.1.2.size
                intro v2 w2 ho2 hg2
                have hG2 : KG w w2 wr.heap.size ⟨fi, fa, fs, fc⟩ := ⟨H1.out.1.1.grown hg2 (kg_row HX.out.2.1 rfl), H1.out.1.2.grown hg2 H1.out.1.2.size (fun k e => (H1.out.2.blk e).1)⟩
                have H2 := Lib.hid (And.intro hG2 ho2)
                obtain ⟨z0, z1, z2, z3⟩ := hG2.cells
                dsimp only at z0 z1 z2 z3
                clear hG2 ho2 hg2
                go_wp2_with fail
                refine (HE.out w2).mono ?_
                rintro e w3 ⟨rfl, hb3⟩
                have H3 := Lib.hid (And.intro (H2.out.2.below hb3) (below_then H2.out.1.2 H2.out.1.2.size hb3))
                clear hb3 z0 z1 z2 z3
                go_wp2_with fail
                go_roundg (j - (q + 1))
                case measure => have := HX.out.1; omega
                case rel => exact ⟨q + 1, 1, (R - c), (acc ++ [m]), by have := HX.out.1; omega, by go_num, by go_num, by go_num, H3.out.1, H3.out.2, by rw [← HQ.out.1]; simp [Option.map_map, Function.comp_def, List.append_assoc], by simp; omega, by omega, by omega⟩
              · rw [if_pos ⟨he1, he2⟩] at heq
                have hgeI : decide ((least : Int) ≤ 1) = true := decide_eq_true (by omega)
                have hgeN : decide (least ≤ 1) = true := decide_eq_true (by omega)
                have HQ := Lib.hid (And.intro heq he1)
                clear heq he1
                subst he2
                go_wp2_with fail
                rw [HCF.out, Oper.upon_enter]
                refine HG.out.2.1.mono ?_
                rintro e w1 ⟨rfl, hb1⟩
                have hG1 := HG.out.1.step hb1
                have H1 := Lib.hid (And.intro hG1 (HG.out.2.2.1.below hb1))
                obtain ⟨z0, z1, z2, z3⟩ := hG1.cells
                dsimp only at z0 z1 z2 z3
                clear hG1 hb1 p0 p1 p2 p3
                go_wp2_with (at_builtin; refine wpList_appI w1 rfl _ _ 23 rfl w.heap.size 3 ii iz Try.underlying23 hii hiz hi1 hi2 hi3 u13 acc rfl H1.out.2 m _ rfl rfl ?_ ?_ ?_)
                · omega
                · exact H1.out.1.2.size
                intro v2 w2 ho2 hg2
                have hG2 : KG w w2 wr.heap.size ⟨fi, fa, fs, fc⟩ := ⟨H1.out.1.1.grown hg2 (kg_row HX.out.2.1 rfl), H1.out.1.2.grown hg2 H1.out.1.2.size (fun k e => (H1.out.2.blk e).1)⟩
                have H2 := Lib.hid (And.intro hG2 ho2)
                obtain ⟨z0, z1, z2, z3⟩ := hG2.cells
                dsimp only at z0 z1 z2 z3
                clear hG2 ho2 hg2
                go_wp2_with fail
                refine (HE.out w2).mono ?_
                rintro e w3 ⟨rfl, hb3⟩
                have H3 := Lib.hid (And.intro (H2.out.2.below hb3) (below_then H2.out.1.2 H2.out.1.2.size hb3))
                clear hb3 z0 z1 z2 z3
                go_wp2_with (at_builtin; refine wpList_appI w3 rfl _ _ 23 rfl w.heap.size 3 ii iz Try.underlying23 hii hiz hi1 hi2 hi3 v2 (acc ++ [m]) rfl H3.out.1 1 _ rfl rfl ?_ ?_ ?_)
                · rw [List.length_append]; simp; omega
                · exact H3.out.2.size
                intro v4 w4 ho4 hg4
                have H4 := Lib.hid (And.intro ho4 (H3.out.2.grown hg4 H3.out.2.size (fun k e => (H3.out.1.blk e).1)))
                clear ho4 hg4
                go_wp2_with fail
                go_roundg (j - (q + 1))
                case measure => have := HX.out.1; omega
                case rel => exact ⟨q + 1, 0, R, (acc ++ [m, 1]), by have := HX.out.1; omega, by go_num, by go_num, by go_num, H4.out.1, H4.out.2, by rw [← HQ.out.1]; simp [Option.map_map, Function.comp_def, List.append_assoc], by simp; omega, by omega, by omega⟩
            · rw [if_neg (by omega)] at heq
              have hfI : decide ((f : Int) < (c : Int)) = false := decide_eq_false (by omega)
              have hfN : decide (f < c) = false := decide_eq_false (by omega)
              have hmI : ((m : Int) == 255) = false := beq_eq_false_iff_ne.2 (by omega)
              have hend : (¬ least ≤ (m + 1)) ∨ (least ≤ (m + 1) ∧ en = false) ∨ (least ≤ (m + 1) ∧ en = true) := by
                cases en
                · by_cases h : least ≤ (m + 1) <;> simp [h]
                · by_cases h : least ≤ (m + 1) <;> simp [h]
              rcases hend with he1 | ⟨he1, he2⟩ | ⟨he1, he2⟩
              · rw [if_neg (fun h => he1 h.1)] at heq
                have hgeI : decide ((least : Int) ≤ (m : Int) + 1) = false := decide_eq_false (by omega)
                have hgeN : decide (least ≤ (m + 1)) = false := decide_eq_false (by omega)
                have HQ := Lib.hid (And.intro heq he1)
                clear heq he1
                go_wp2_with fail
                rw [HCF.out, Oper.upon_enter]
                refine HG.out.2.1.mono ?_
                rintro e w1 ⟨rfl, hb1⟩
                have hG1 := HG.out.1.step hb1
                have H1 := Lib.hid (And.intro hG1 (HG.out.2.2.1.below hb1))
                obtain ⟨z0, z1, z2, z3⟩ := hG1.cells
                dsimp only at z0 z1 z2 z3
                clear hG1 hb1 p0 p1 p2 p3
                go_wp2_with fail
                go_roundg (j - (q + 1))
                case measure => have := HX.out.1; omega
                case rel => exact ⟨q + 1, (m + 1), (f - c), acc, by have := HX.out.1; omega, by go_num, by go_num, by go_num, H1.out.2, H1.out.1.2, HQ.out.1, by omega, by omega, by omega⟩
              · rw [if_neg (by rw [he2]; exact fun h => by cases h.2)] at heq
                have hgeI : decide ((least : Int) ≤ (m : Int) + 1) = true := decide_eq_true (by omega)
                have hgeN : decide (least ≤ (m + 1)) = true := decide_eq_true (by omega)
                have HQ := Lib.hid (And.intro heq he1)
                clear heq he1
                subst he2
                go_wp2_with fail
                rw [HCF.out, Oper.upon_enter]
                refine HG.out.2.1.mono ?_
                rintro e w1 ⟨rfl, hb1⟩
                have hG1 := HG.out.1.step hb1
                have H1 := Lib.hid (And.intro hG1 (HG.out.2.2.1.below hb1))
                obtain ⟨z0, z1, z2, z3⟩ := hG1.cells
                dsimp only at z0 z1 z2 z3
                clear hG1 hb1 p0 p1 p2 p3
                go_wp2_with fail
                refine (HE.out w1).mono ?_
                rintro e w2 ⟨rfl, hb2⟩
                have H2 := Lib.hid (And.intro (H1.out.2.below hb2) (below_then H1.out.1.2 H1.out.1.2.size hb2))
                clear hb2 z0 z1 z2 z3
                go_wp2_with fail
                go_roundg (j - (q + 1))
                case measure => have := HX.out.1; omega
                case rel => exact ⟨q + 1, (m + 1), (f - c), acc, by have := HX.out.1; omega, by go_num, by go_num, by go_num, H2.out.1, H2.out.2, HQ.out.1, by omega, by omega, by omega⟩
              · rw [if_pos ⟨he1, he2⟩] at heq
                have hgeI : decide ((least : Int) ≤ (m : Int) + 1) = true := decide_eq_true (by omega)
                have hgeN : decide (least ≤ (m + 1)) = true := decide_eq_true (by omega)
                have HQ := Lib.hid (And.intro heq he1)
                clear heq he1
                subst he2
                go_wp2_with fail
                rw [HCF.out, Oper.upon_enter]
                refine HG.out.2.1.mono ?_
                rintro e w1 ⟨rfl, hb1⟩
                have hG1 := HG.out.1.step hb1
                have H1 := Lib.hid (And.intro hG1 (HG.out.2.2.1.below hb1))
                obtain ⟨z0, z1, z2, z3⟩ := hG1.cells
                dsimp only at z0 z1 z2 z3
                clear hG1 hb1 p0 p1 p2 p3
                go_wp2_with fail
                refine (HE.out w1).mono ?_
                rintro e w2 ⟨rfl, hb2⟩
                have H2 := Lib.hid (And.intro (H1.out.2.below hb2) (below_then H1.out.1.2 H1.out.1.2.size hb2))
                clear hb2 z0 z1 z2 z3
                go_wp2_with (at_builtin; refine wpList_appI w2 rfl _ _ 23 rfl w.heap.size 3 ii iz Try.underlying23 hii hiz hi1 hi2 hi3 u13 acc rfl H2.out.1 (m + 1) _ rfl rfl ?_ ?_ ?_)
                · omega
                · exact H2.out.2.size
                intro v3 w3 ho3 hg3
                have H3 := Lib.hid (And.intro ho3 (H2.out.2.grown hg3 H2.out.2.size (fun k e => (H2.out.1.blk e).1)))
                clear ho3 hg3
                go_wp2_with fail
                go_roundg (j - (q + 1))
                case measure => have := HX.out.1; omega
                case rel => exact ⟨q + 1, 0, R, (acc ++ [m + 1]), by have := HX.out.1; omega, by go_num, by go_num, by go_num, H3.out.1, H3.out.2, by rw [← HQ.out.1]; simp [Option.map_map, Function.comp_def, List.append_assoc], by simp; omega, by omega, by omega⟩
        · obtain rfl : q = j := by have := HX.out.1; omega
          have hge2 : ¬ (q : Int) < (q : Int) := by omega
          have heq := HX.out.2.2.2
          rw [List.drop_of_length_le (by have := H.out.2.1; omega), shGo] at heq
          by_cases hm0 : 0 < m
          · rw [if_pos hm0] at heq
            have hr : r = (acc ++ [m], 0) := by rw [← HRR.out, ← heq]; rfl
            have HF := Lib.hid hr
            have hmI : (0 : Int) < (m : Int) := by omega
            clear heq hr
            go_wp2_with (at_builtin; refine wpList_appI wr rfl _ _ 23 rfl w.heap.size 3 ii iz Try.underlying23 hii hiz hi1 hi2 hi3 u13 acc rfl HX.out.2.1 m _ rfl rfl ?_ ?_ ?_)
            · omega
            · exact HX.out.2.2.1.size
            intro v2 w2 ho2 hg2
            have H2 := Lib.hid (And.intro ho2 (HX.out.2.2.1.grown hg2 HX.out.2.2.1.size (fun k e => (HX.out.2.1.blk e).1)))
            clear ho2 hg2
            go_wp2_with fail
            go_ret2
            rw [HF.out]
            exact ⟨_, rfl, H2.out.1, H2.out.2⟩
          · rw [if_neg hm0] at heq
            have hr : r = (acc, 0) := by rw [← HRR.out, ← heq]; simp
            have HF := Lib.hid hr
            have hmI : ¬ (0 : Int) < (m : Int) := by omega
            clear heq hr
            go_wp2_with fail
            go_ret2
            rw [HF.out]
            exact ⟨_, rfl, HX.out.2.1, HX.out.2.2.1⟩
end Go.Proofs.Ytlioclicopakbaa
