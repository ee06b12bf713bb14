import Derived.Deep.RegionHeld3
import Derived.Lib.SliceRun
import Derived.Test.YtckpgbkabbddnaaMPages
import Derived.Test.YtckpgbkabbddnaaPartRM
import Derived.Test.YtckpgbkabbddnaaMDKey
import Derived.Test.YtckpgbkabbddnaaFactOM
import Derived.Test.YtckpgbkabbddnaaMSeal
import Derived.Test.YtckpgbkabbddnaaMPlain
import Derived.Test.YtckpgbkabbddnaaStepPM
import Derived.Test.YtckpgbkabbddnaaMApp
import Derived.Test.YtckpgbkabbddnaaDRecBM
set_option linter.unusedVariables false
set_option linter.unusedSimpArgs false
/- Layer 13, plain: the document's parts are the program's. -/
namespace Go.Proofs.Ytckpgbkabbddnaa
open Go.RowKit

def partsGo (R : Nat) : List Fct → List Fct → Nat → List (List Fct)
  | [], cur, _ => if cur = [] then [] else [cur]
  | f :: l, cur, us => if cur ≠ [] ∧ (R < us + costS f ∨ cur.length = 255) then cur :: partsGo R l [f] (costS f) else partsGo R l (cur ++ [f]) (us + costS f)
theorem partsGo_segs (L : List Fct) (R : Nat) : ∀ (k i fr us : Nat), L.length - i = k → i ≤ L.length → fr < i → partsGo R (L.drop i) (part L fr i) us = segs L fr (cutsGo R (L.drop i) i fr us)
  | 0, i, fr, us, hk, hi, hfr => by
    have hil : i = L.length := by omega
    subst hil
    rw [List.drop_length]
    have hne : part L fr L.length ≠ [] := fun e => by
      have := part_len (L := L) (a := fr) (b := L.length) (Nat.le_refl _)
      rw [e] at this
      simp at this
      omega
    simp only [partsGo, cutsGo, segs, if_neg hne]
  | k + 1, i, fr, us, hk, hi, hfr => by
    obtain ⟨f, hf⟩ : ∃ f, L[i]? = some f := ⟨_, List.getElem?_eq_getElem (by omega)⟩
    have hd : L.drop i = f :: L.drop (i + 1) := by
      obtain ⟨h1, h2⟩ := List.getElem?_eq_some_iff.1 hf
      rw [List.drop_eq_getElem_cons h1, h2]
    have hpl := part_len (L := L) (a := fr) (b := i) hi
    have hne : part L fr i ≠ [] := fun e => by
      rw [e] at hpl
      simp at hpl
      omega
    rw [hd]
    unfold partsGo cutsGo
    by_cases hc : R < us + costS f ∨ i - fr = 255
    · rw [if_pos ⟨hne, by rw [hpl]; exact hc⟩, if_pos (.inr hc)]
      unfold segs
      have ih := partsGo_segs L R k (i + 1) i (costS f) (by omega) (by omega) (by omega)
      rw [part_one hf] at ih
      rw [ih]
    · rw [if_neg (fun h => hc (by rw [hpl] at h; exact h.2)), if_neg (fun h => by
        rcases h with h | h
        · omega
        · exact hc h)]
      have ih := partsGo_segs L R k (i + 1) fr (us + costS f) (by omega) (by omega) (by omega)
      rw [part_step (by omega) hf] at ih
      rw [ih]
theorem partsGo_cuts (L : List Fct) (R : Nat) : partsGo R L [] 0 = partsC L (cutsGo R L 0 0 0) := by
  cases L with
  | nil => simp [partsGo, cutsGo, partsC]
  | cons f l =>
    unfold partsGo cutsGo
    rw [if_neg (fun h => h.1 rfl), if_pos (.inl rfl)]
    have h := partsGo_segs (f :: l) R l.length 1 0 (costS f) (by simp) (by simp) (by omega)
    have h1 : part (f :: l) 0 1 = [f] := part_one (i := 0) rfl
    rw [h1] at h
    simpa [partsC] using h
end Go.Proofs.Ytckpgbkabbddnaa

/- Layer 13, the document's Parts: contract. -/
namespace Go.Proofs.Ytckpgbkabbddnaa
open Go.RowKit

def dPartsS (s : Int) (l : List Fct) : List (List Fct) × Nat := if (cutsS s l).2 ≠ 0 then ([], (cutsS s l).2) else (partsS s l, 0)
def PartsEnd (w : World) (r : List (List Fct) × Nat) (e : Ending) (w' : World) : Prop :=
  ∃ v, e = .returned (.tuple #[v, .int .i64 (r.2 : Int)]) ∧ PP w' w.heap.size v r.1.length r.1 ∧ Below w.heap.size w w'
theorem fct_infoD : (Try.prog.info? 41).map (fun i => (i.zero.map (·.cells.size), i.size, i.bytes)) = some (some 5, 5, 64) := by kernel_rfl
theorem fct_infoD' : ∃ i z, Try.prog.info? 41 = some i ∧ i.zero = some z ∧ i.size = 5 ∧ i.bytes = 64 ∧ z.cells.size = 5 := by
  obtain ⟨i, hi, he⟩ := Option.map_eq_some_iff.1 fct_infoD
  simp only [Prod.mk.injEq] at he
  obtain ⟨z, hz, hz5⟩ := Option.map_eq_some_iff.1 he.1
  exact ⟨i, z, hi, hz, he.2.1, he.2.2, hz5⟩
theorem PP.nil (w : World) (B : Nat) : PP w B (.slice none 0 0) 0 [] := (PPOff.nil w B none).pp

set_option maxRecDepth 100000 in
set_option maxHeartbeats 8000000 in
theorem dParts_any (w : World) (s : Int) (A : Option Addr) (n d : Nat) (l : List Fct) (h : FctsIn w A n l) (hv : ∀ f ∈ l, f.val.length ≤ 140737488351232) (hn : n * 64 ≤ 140737488351232) :
    Calls Try.prog 36 #[.int .i64 s, .slice A n d] w (PartsEnd w (dPartsS s l)) := by
  obtain ⟨r, hr⟩ : ∃ r, dPartsS s l = r := ⟨_, rfl⟩
  rw [hr]
  have H := Lib.hid (show FctsIn w A n l ∧ l.length = n ∧ (∀ f ∈ l, f.val.length ≤ 140737488351232) ∧ dPartsS s l = r from ⟨h, h.1, hv, hr⟩)
  have hord := fun w (h : FctsIn w A n l) => dOrdered_any w A n d l h (by omega)
  have HO := Lib.hid hord
  clear h hv hr hord
  obtain ⟨ii, iz, hii, hiz, hi1, hi2, hi3⟩ := fct_infoD'
  by_cases hs : 128 ≤ s ∧ s ≤ 256
  · have HSZ := Lib.hid (fun w => dSize_yes s w hs.1 hs.2)
    obtain ⟨hs1, hs2⟩ := hs
    have HSS := Lib.hid (And.intro hs1 hs2)
    by_cases hoo : ordB l = true
    · have h2 : ¬ goodL l → r = ([], 2) := fun hg => by
        rw [← H.out.2.2.2]
        have hc : cutsS s l = ([], 2) := by
          unfold cutsS
          rw [if_neg (fun h => h ⟨hs1, hs2⟩), if_pos hg]
        unfold dPartsS
        rw [hc]
        rfl
      have h3 : goodL l → longB (s.toNat - 6) l = true → r = ([], 3) := fun hg hl => by
        rw [← H.out.2.2.2]
        have hc : cutsS s l = ([], 3) := by
          unfold cutsS
          rw [if_neg (fun h => h ⟨hs1, hs2⟩), if_neg (fun h => h hg), if_pos hl]
        unfold dPartsS
        rw [hc]
        rfl
      have h4 : goodL l → longB (s.toNat - 6) l = false → r = (partsGo (s.toNat - 6) l [] 0, 0) := fun hg hl => by
        rw [← H.out.2.2.2]
        have hc : cutsS s l = (cutsGo (s.toNat - 6) l 0 0 0, 0) := by
          unfold cutsS
          rw [if_neg (fun h => h ⟨hs1, hs2⟩), if_neg (fun h => h hg), if_neg (by rw [hl]; simp)]
        unfold dPartsS partsS
        rw [hc, if_neg (by simp), partsGo_cuts]
      have HBAD := Lib.hid (And.intro h2 (And.intro h3 h4))
      have HORD := Lib.hid hoo
      clear h2 h3 h4 hoo
      obtain ⟨R, hR⟩ : ∃ R, s.toNat - 6 = R := ⟨_, rfl⟩
      rw [hR] at HBAD
      have hR5 : s - 5 = (R : Int) + 1 := by omega
      have hR250 : R ≤ 250 := by omega
      clear hR
      go_enter Try.func36, Try.ntmps36
      go_wp2_with fail
      refine (HSZ.out _).mono ?_
      rintro e w0 ⟨rfl, rfl⟩
      go_wp2_with fail
      refine (HO.out w H.out.1).mono ?_
      rw [HORD.out]
      rintro e w1 ⟨rfl, hb1⟩
      have H1 := Lib.hid hb1
      clear hb1
      go_wp2_with fail
      go_loopg [6] n (fun k i wr => ∃ j : Nat, j + k = n ∧ i = .int .i64 j ∧ Below w.heap.size w wr ∧ ∀ f ∈ l.take j, fOk f)
      case atStart => exact ⟨0, by omega, rfl, H1.out, fun f hf => by simp at hf⟩
      case round =>
        obtain ⟨j, hj, rfl, hb, hall⟩ := hrel
        have HX := Lib.hid (And.intro hj (And.intro hb hall))
        have hsz := hb.size
        clear hj hb hall
        by_cases hlt : j < n
        · obtain ⟨f, hf⟩ : ∃ f, l[j]? = some f := ⟨_, List.getElem?_eq_getElem (by have := H.out.2.1; omega)⟩
          obtain ⟨okf, ad, B1, d1, hA, _, _, _, hblk, x0, x1, x2, x3, x4⟩ := FctsIn.at_ H.out.1 hf
          subst hA
          have hup : ∀ w1 : World, Below w.heap.size w w1 → ∀ (a : Addr) (u : Value), a.block < w.heap.size → w.cell? a = some u → w1.cell? a = some u := fun w1 hb a u h1 h2 => (World.cell?_of_block (hb.block _ h1)).trans h2
          have HU := Lib.hid hup
          have p0 := hup wr HX.out.2.1 _ _ hblk x0
          have p1 := hup wr HX.out.2.1 ⟨(ad.add (j * 5)).block, (ad.add (j * 5)).off + 1, none⟩ _ hblk x1
          have p2 := hup wr HX.out.2.1 ⟨(ad.add (j * 5)).block, (ad.add (j * 5)).off + 2, none⟩ _ hblk x2
          have p3 := hup wr HX.out.2.1 ⟨(ad.add (j * 5)).block, (ad.add (j * 5)).off + 3, none⟩ _ hblk x3
          have hjn : (j : Int) < (n : Int) := by omega
          have hvl := H.out.2.2.1 f (List.mem_of_getElem? hf)
          obtain ⟨L, hL⟩ : ∃ L, f.val.length = L := ⟨_, rfl⟩
          rw [hL] at x4 hvl
          have HM := fun w => dMayK_any w f.key okf
          have hbad : ¬ fOk f → r = ([], 2) := fun hb => HBAD.out.1 fun hg => hb (hg.1 f (List.mem_of_getElem? hf))
          have hstep : fOk f → ∀ g ∈ l.take (j + 1), fOk g := fun hk g hg => by
            rw [List.take_add_one, hf] at hg
            rcases List.mem_append.1 hg with hg | hg
            · exact HX.out.2.2 g hg
            · simp at hg
              rw [hg]
              exact hk
          have HV := Lib.hid (And.intro x4 (And.intro hL (And.intro hbad hstep)))
          clear x0 x1 x2 x3 x4 hup hf okf hL hbad hstep
          obtain ⟨⟨fi, fa, fs, fc⟩, fv⟩ := f
          unfold Ky.val at HM
          dsimp only at p0 p1 p2 p3 HM HV
          have HM := Lib.hid HM
          by_cases hm : mayK ⟨fi, fa, fs, fc⟩
          · rw [decide_eq_true hm] at HM
            have hc : L < 1 ∨ 255 < L ∨ (1 ≤ L ∧ L ≤ 255) := by omega
            rcases hc with hc | hc | ⟨hc1, hc2⟩
            · have t1 : decide (L < 1) = true := decide_eq_true hc
              have t2 : decide ((L : Int) < 1) = true := decide_eq_true (by omega)
              have t3 : (L : Int) < 1 := by omega
              have HF := Lib.hid (HV.out.2.2.1 fun h => by have := h.2.1; have := HV.out.2.1; dsimp only at *; omega)
              clear hm
              go_wp2_with fail
              refine (HM.out _).mono ?_
              rintro e w2 ⟨rfl, hb2⟩
              have hbw := below_then HX.out.2.1 HX.out.2.1.size hb2
              have p4 := HU.out w2 hbw ⟨(ad.add (j * 5)).block, (ad.add (j * 5)).off + 4, none⟩ _ hblk HV.out.1
              have H2 := Lib.hid hbw
              clear hb2 hbw p0 p1 p2 p3
              go_wp2_with fail
              go_ret2
              rw [HF.out]
              exact ⟨_, rfl, PP.nil _ _, H2.out⟩
            · have t1 : decide (L < 1) = false := decide_eq_false (by omega)
              have t2 : decide ((L : Int) < 1) = false := decide_eq_false (by omega)
              have t3 : decide (255 < L) = true := decide_eq_true hc
              have t4 : decide ((255 : Int) < (L : Int)) = true := decide_eq_true (by omega)
              have HF := Lib.hid (HV.out.2.2.1 fun h => by have := h.2.2; have := HV.out.2.1; dsimp only at *; omega)
              clear hm
              go_wp2_with fail
              refine (HM.out _).mono ?_
              rintro e w2 ⟨rfl, hb2⟩
              have hbw := below_then HX.out.2.1 HX.out.2.1.size hb2
              have p4 := HU.out w2 hbw ⟨(ad.add (j * 5)).block, (ad.add (j * 5)).off + 4, none⟩ _ hblk HV.out.1
              have H2 := Lib.hid hbw
              clear hb2 hbw p0 p1 p2 p3
              go_wp2_with fail
              go_ret2
              rw [HF.out]
              exact ⟨_, rfl, PP.nil _ _, H2.out⟩
            · have t1 : decide (L < 1) = false := decide_eq_false (by omega)
              have t2 : decide ((L : Int) < 1) = false := decide_eq_false (by omega)
              have t3 : decide (255 < L) = false := decide_eq_false (by omega)
              have t4 : decide ((255 : Int) < (L : Int)) = false := decide_eq_false (by omega)
              have HF := Lib.hid (HV.out.2.2.2 ⟨hm, by have := HV.out.2.1; dsimp only at *; omega, by have := HV.out.2.1; dsimp only at *; omega⟩)
              clear hm
              go_wp2_with fail
              refine (HM.out _).mono ?_
              rintro e w2 ⟨rfl, hb2⟩
              have hbw := below_then HX.out.2.1 HX.out.2.1.size hb2
              have p4 := HU.out w2 hbw ⟨(ad.add (j * 5)).block, (ad.add (j * 5)).off + 4, none⟩ _ hblk HV.out.1
              have H2 := Lib.hid hbw
              clear hb2 hbw p0 p1 p2 p3
              go_wp2_with fail
              go_roundg (n - (j + 1))
              case measure => have := HX.out.1; omega
              case rel => exact ⟨j + 1, by have := HX.out.1; omega, by go_num, H2.out, HF.out⟩
          · rw [decide_eq_false hm] at HM
            have HF := Lib.hid (HV.out.2.2.1 fun h => hm h.1)
            clear hm
            go_wp2_with fail
            refine (HM.out _).mono ?_
            rintro e w2 ⟨rfl, hb2⟩
            have H2 := Lib.hid (below_then HX.out.2.1 HX.out.2.1.size hb2)
            clear hb2 p0 p1 p2 p3
            go_wp2_with fail
            go_ret2
            rw [HF.out]
            exact ⟨_, rfl, PP.nil _ _, H2.out⟩
        · obtain rfl : j = n := by have := HX.out.1; omega
          have hge : ¬ (j : Int) < (j : Int) := by omega
          have hall := HX.out.2.2
          rw [List.take_of_length_le (by have := H.out.2.1; omega)] at hall
          have HGL := Lib.hid (show goodL l from ⟨hall, HORD.out⟩)
          have HB2 := Lib.hid HX.out.2.1
          clear hall HX
          go_wp2_with fail
          generalize wr = W2 at *
          go_loopg [7] j (fun k i wr => ∃ q : Nat, q + k = j ∧ i = .int .i64 q ∧ Below w.heap.size w wr ∧ ∀ f ∈ l.take q, costS f ≤ R)
          case atStart => exact ⟨0, by omega, rfl, HB2.out, fun f hf => by simp at hf⟩
          case round =>
            obtain ⟨q, hq, rfl, hb, hall⟩ := hrel
            have HX := Lib.hid (And.intro hq (And.intro hb hall))
            have hsz2 := hb.size
            clear hq hb hall
            by_cases hlt2 : q < j
            · obtain ⟨f, hf⟩ : ∃ f, l[q]? = some f := ⟨_, List.getElem?_eq_getElem (by have := H.out.2.1; omega)⟩
              obtain ⟨okf, ad, B1, d1, hA, _, _, _, hblk, x0, x1, x2, x3, x4⟩ := FctsIn.at_ H.out.1 hf
              subst hA
              have hup : ∀ (a : Addr) (u : Value), a.block < w.heap.size → w.cell? a = some u → wr.cell? a = some u := fun a u h1 h2 => (World.cell?_of_block (HX.out.2.1.block _ h1)).trans h2
              have p0 := hup _ _ hblk x0
              have p1 := hup ⟨(ad.add (q * 5)).block, (ad.add (q * 5)).off + 1, none⟩ _ hblk x1
              have p2 := hup ⟨(ad.add (q * 5)).block, (ad.add (q * 5)).off + 2, none⟩ _ hblk x2
              have p3 := hup ⟨(ad.add (q * 5)).block, (ad.add (q * 5)).off + 3, none⟩ _ hblk x3
              have p4 := hup ⟨(ad.add (q * 5)).block, (ad.add (q * 5)).off + 4, none⟩ _ hblk x4
              have hqj : (q : Int) < (j : Int) := by omega
              have hvl := H.out.2.2.1 f (List.mem_of_getElem? hf)
              obtain ⟨L, hL⟩ : ∃ L, f.val.length = L := ⟨_, rfl⟩
              have hcle := (costS_le (HGL.out.1 f (List.mem_of_getElem? hf))).1
              have HC := fun w => dCost_any w f okf B1 L d1 hL (by omega)
              rw [hL] at p4
              obtain ⟨c, hc⟩ : ∃ c, costS f = c := ⟨_, rfl⟩
              rw [hc] at HC hcle
              have hstep : c ≤ R → ∀ g ∈ l.take (q + 1), costS g ≤ R := fun hk g hg => by
                rw [List.take_add_one, hf] at hg
                rcases List.mem_append.1 hg with hg | hg
                · exact HX.out.2.2 g hg
                · simp at hg
                  rw [hg, hc]
                  exact hk
              have hbad : R < c → r = ([], 3) := fun hk => HBAD.out.2.1 HGL.out (List.any_eq_true.2 ⟨f, List.mem_of_getElem? hf, by rw [hc]; exact decide_eq_true hk⟩)
              have HC := Lib.hid HC
              have HV := Lib.hid (And.intro hstep hbad)
              clear x0 x1 x2 x3 x4 hup hf okf hL hc hstep hbad hvl
              obtain ⟨⟨fi, fa, fs, fc⟩, fv⟩ := f
              dsimp only at p0 p1 p2 p3 p4 HC
              go_wp2_with fail
              refine (HC.out _).mono ?_
              rintro e w2 ⟨rfl, hb2⟩
              have H2 := Lib.hid (below_then HX.out.2.1 HX.out.2.1.size hb2)
              clear hb2 p0 p1 p2 p3 p4
              by_cases hcc : R < c
              · have HF := Lib.hid (HV.out.2 hcc)
                have t1 : s - 5 < 1 + (c : Int) := by omega
                have t2 : decide (s - 5 < 1 + (c : Int)) = true := decide_eq_true t1
                go_wp2_with fail
                go_ret2
                rw [HF.out]
                exact ⟨_, rfl, PP.nil _ _, H2.out⟩
              · have HF := Lib.hid (HV.out.1 (by omega))
                have t1 : ¬ s - 5 < 1 + (c : Int) := by omega
                have t2 : decide (s - 5 < 1 + (c : Int)) = false := decide_eq_false t1
                go_wp2_with fail
                go_roundg (j - (q + 1))
                case measure => have := HX.out.1; omega
                case rel => exact ⟨q + 1, by have := HX.out.1; omega, by go_num, H2.out, HF.out⟩
            · obtain rfl : q = j := by have := HX.out.1; omega
              have hge2 : ¬ (q : Int) < (q : Int) := by omega
              have hall := HX.out.2.2
              rw [List.take_of_length_le (by have := H.out.2.1; omega)] at hall
              have hlong : longB R l = false := by
                rw [Bool.eq_false_iff]
                intro hl
                obtain ⟨f, hf, hd⟩ := List.any_eq_true.1 hl
                have := of_decide_eq_true hd
                have := hall f hf
                omega
              have HRES := Lib.hid (HBAD.out.2.2 HGL.out hlong)
              have HALL := Lib.hid hall
              have HB3 := Lib.hid HX.out.2.1
              clear hall hlong HX
              go_wp2_with fail
              generalize wr = W3 at *
              go_loopg [8, 9, 10, 11] q (fun k vo vp us i wr => ∃ (a m cp u : Nat) (ls : List (List Fct)) (cur : List Fct), a + k = q ∧ i = .int .i64 a ∧ us = .int .i64 (1 + (u : Int)) ∧ PPOff wr w.heap.size vo m ls vp.ownBlock ∧ PF wr w.heap.size vp cp cur ∧ Below w.heap.size w wr ∧ ls ++ partsGo R (l.drop a) cur u = partsGo R l [] 0 ∧ u ≤ 250 ∧ cp ≤ 255 ∧ m ≤ a ∧ (cur = [] → u = 0))
              case atStart => exact ⟨0, 0, 0, 0, [], [], by omega, rfl, by simp, PPOff.nil _ _ _, PF.nil _ _, HB3.out, by simp, by omega, by omega, by omega, fun _ => rfl⟩
              case round =>
                obtain ⟨a, m, cp, u, ls, cur, hak, rfl, rfl, hpo, hpf, hb, heq, hu250, hcp, hma, hcu⟩ := hrel
                obtain ⟨AP, cP, rfl, hinP, hcP1, hcP2⟩ := hpf.listIn
                have hcl := hpf.len
                have HX := Lib.hid (And.intro hpo (And.intro hpf (And.intro hb (And.intro heq (And.intro hcu hcl)))))
                have hsz3 := hb.size
                clear hpo hpf hb heq hcu hinP hcl
                by_cases hlt3 : a < q
                · have haq : (a : Int) < (q : Int) := by omega
                  obtain ⟨f, hf⟩ : ∃ f, l[a]? = some f := ⟨_, List.getElem?_eq_getElem (by have := H.out.2.1; omega)⟩
                  obtain ⟨okf, ad, B1, d1, hA, hr1, l1, l2, hblk, x0, x1, x2, x3, x4⟩ := FctsIn.at_ H.out.1 hf
                  subst hA
                  have hup : ∀ w1 : World, Below w.heap.size w w1 → ∀ (a : Addr) (u : Value), a.block < w.heap.size → w.cell? a = some u → w1.cell? a = some u := fun w1 hb a u h1 h2 => (World.cell?_of_block (hb.block _ h1)).trans h2
                  obtain ⟨L, hL⟩ : ∃ L, f.val.length = L := ⟨_, rfl⟩
                  have hov : OldV w w.heap.size (.slice B1 L d1) f.val := ⟨B1, d1, by rw [hL], hr1, l1, l2, fun ad2 e2 h0 => hr1.lt e2 (by rwa [bv_length])⟩
                  have hcle := (costS_le (HGL.out.1 f (List.mem_of_getElem? hf)))
                  have hcR := HALL.out f (List.mem_of_getElem? hf)
                  have hvl := H.out.2.2.1 f (List.mem_of_getElem? hf)
                  rw [hL] at x4
                  have hcells : ∀ w1 : World, Below w.heap.size w w1 → w1.cell? (ad.add (a * 5)) = some (.int .i64 f.key.ino) ∧ w1.cell? ⟨(ad.add (a * 5)).block, (ad.add (a * 5)).off + 1, none⟩ = some (.int .u8 (f.key.what.toNat : Int)) ∧ w1.cell? ⟨(ad.add (a * 5)).block, (ad.add (a * 5)).off + 2, none⟩ = some (.string f.key.name) ∧ w1.cell? ⟨(ad.add (a * 5)).block, (ad.add (a * 5)).off + 3, none⟩ = some (.int .i64 f.key.chunk) ∧ w1.cell? ⟨(ad.add (a * 5)).block, (ad.add (a * 5)).off + 4, none⟩ = some (.slice B1 L d1) := fun w1 hb => ⟨hup w1 hb _ _ hblk x0, hup w1 hb ⟨(ad.add (a * 5)).block, (ad.add (a * 5)).off + 1, none⟩ _ hblk x1, hup w1 hb ⟨(ad.add (a * 5)).block, (ad.add (a * 5)).off + 2, none⟩ _ hblk x2, hup w1 hb ⟨(ad.add (a * 5)).block, (ad.add (a * 5)).off + 3, none⟩ _ hblk x3, hup w1 hb ⟨(ad.add (a * 5)).block, (ad.add (a * 5)).off + 4, none⟩ _ hblk x4⟩
                  have hC := fun w => dCost_any w f okf B1 L d1 hL (by omega)
                  obtain ⟨c, hc⟩ : ∃ c, costS f = c := ⟨_, rfl⟩
                  rw [hc] at hC hcle hcR
                  have hd : l.drop a = f :: l.drop (a + 1) := by
                    obtain ⟨h1, h2⟩ := List.getElem?_eq_some_iff.1 hf
                    rw [List.drop_eq_getElem_cons h1, h2]
                  have hpg : ls ++ (if cur ≠ [] ∧ (R < u + c ∨ cur.length = 255) then cur :: partsGo R (l.drop (a + 1)) [f] c else partsGo R (l.drop (a + 1)) (cur ++ [f]) (u + c)) = partsGo R l [] 0 := by
                    have h := HX.out.2.2.2.1
                    rw [hd, partsGo, hc] at h
                    exact h
                  obtain ⟨p0, p1, p2, p3, p4⟩ := hcells wr HX.out.2.2.1
                  have HC := Lib.hid hC
                  have HV := Lib.hid (And.intro hcells (And.intro hov (And.intro hpg okf)))
                  clear x0 x1 x2 x3 x4 hup hf okf hL hc hC hr1 l1 hov hcells hd hpg hvl
                  obtain ⟨⟨fi, fa, fs, fc⟩, fv⟩ := f
                  dsimp only at p0 p1 p2 p3 p4 HC HV
                  have hs5 : s ≤ 256 := by omega
                  have hcase : cp = 0 ∨ (0 < cp ∧ R < u + c) ∨ (0 < cp ∧ ¬ R < u + c ∧ cp = 255) ∨ (0 < cp ∧ ¬ R < u + c ∧ cp ≠ 255) := by omega
                  rcases hcase with hz | ⟨hz, hy⟩ | ⟨hz, hy, hw⟩ | ⟨hz, hy, hw⟩
                  · have t0 : decide (0 < cp) = false := decide_eq_false (by omega)
                    have t1 : decide (0 < (cp : Int)) = false := decide_eq_false (by omega)
                    have hcn : cur = [] := List.eq_nil_of_length_eq_zero (by rw [HX.out.2.2.2.2.2]; exact hz)
                    have hu0 : u = 0 := HX.out.2.2.2.2.1 hcn
                    have hre : ls ++ partsGo R (l.drop (a + 1)) (cur ++ [⟨⟨fi, fa, fs, fc⟩, fv⟩]) (u + c) = partsGo R l [] 0 := by
                      have h := HV.out.2.2.1
                      rw [if_neg (fun h => h.1 hcn)] at h
                      exact h
                    have HRE := Lib.hid hre
                    have HZ := Lib.hid (And.intro hz hu0)
                    have hcp' : cp ≤ 254 := by omega
                    have huc : u + c ≤ 250 := by omega
                    clear hre hcn hz hu0 p0 p1 p2 p3 p4
                    obtain ⟨ps, hps1, hps2, hps3⟩ := HX.out.2.1
                    have hbW := HX.out.2.2.1
                    have hov := HV.out.2.1.below (show Below w.heap.size w wr from hbW)
                    obtain ⟨y0, y1, y2, y3, y4⟩ := HV.out.1 wr hbW
                    have hrowT : ∀ k, (Value.slice AP cp cP).ownBlock = some k → w.heap.size ≤ k ∧ k < (wr).heap.size := fun k hk => OwnPs.blk hps1 hk
                    have HT := Lib.hid (And.intro hps1 (And.intro hps2 (And.intro hps3 (And.intro hov (And.intro hbW (And.intro HX.out.1 (And.intro hrowT (hov.valB fun k hk => (hrowT k hk).1))))))))
                    have hszT := hbW.size
                    clear hps1 hps2 hps3 hov hbW hrowT
                    go_wp2_with (at_builtin; refine wpList_appP1H (cell := fctCells) (val := Fct.val) (ok := fun c => okKy c.key) (sz := 5) wr rfl _ _ 22 rfl w.heap.size 41 ii iz 64 Try.underlying22 hii hiz hi1 hi2 hi3 (by decide) fct_len fct_one (Value.slice AP cp cP) cp ps rfl HT.out.1 ⟨⟨fi, fa, fs, fc⟩, fv⟩ (.slice B1 L d1) (wr).heap.size rfl rfl HV.out.2.2.2 HT.out.2.2.2.2.2.2.2 _ rfl ?_ ?_ ?_ ?_)
                    · unfold maxLen; omega
                    · omega
                    · exact hszT
                    intro v7 w7 ho7 hg7 hv7
                    have hb7 := HT.out.2.2.2.2.1.grown hg7 hszT (fun k e => (HT.out.2.2.2.2.2.2.1 k e).1)
                    have hpf7 : PF w7 w.heap.size v7 (cp + 1) (cur ++ [⟨⟨fi, fa, fs, fc⟩, fv⟩]) := ⟨_, ho7, by rw [List.map_append, HT.out.2.1]; rfl, fun p hp => by
                      rcases List.mem_append.1 hp with hp | hp
                      · exact (HT.out.2.2.1 p hp).kept hg7 (fun k hk => (HT.out.2.2.2.2.2.2.1 k hk).1)
                      · rw [List.mem_singleton] at hp
                        subst hp
                        exact HT.out.2.2.2.1.kept hg7 (fun k hk => (HT.out.2.2.2.2.2.2.1 k hk).1)⟩
                    have hpo7 := HT.out.2.2.2.2.2.1.grew hg7 (fun k hk => (HT.out.2.2.2.2.2.2.1 k hk).1) hv7
                    obtain ⟨z0, z1, z2, z3, z4⟩ := HV.out.1 w7 hb7
                    obtain ⟨AP7, cP7, rfl, _, _, _⟩ := hpf7.listIn
                    have H7 := Lib.hid (And.intro hpf7 (And.intro hpo7 hb7))
                    clear ho7 hg7 hv7 hpf7 hpo7 hb7 y0 y1 y2 y3 y4
                    go_wp2_with fail
                    refine (HC.out _).mono ?_
                    rintro e w8 ⟨rfl, hb8⟩
                    have H8 := Lib.hid (And.intro (H7.out.1.below hb8) (And.intro (H7.out.2.1.below hb8) (below_then H7.out.2.2 H7.out.2.2.size hb8)))
                    clear hb8 z0 z1 z2 z3 z4
                    go_wp2_with fail
                    go_roundg (q - (a + 1))
                    case measure => omega
                    case rel => exact ⟨a + 1, m, cp + 1, u + c, ls, cur ++ [⟨⟨fi, fa, fs, fc⟩, fv⟩], by omega, by go_num, by go_num, H8.out.2.1, H8.out.1, H8.out.2.2, HRE.out, by omega, by omega, by omega, fun h => by simp at h⟩
                  · have ty : decide (s - 5 < 1 + (u : Int) + (c : Int)) = true := decide_eq_true (by omega)
                    have ty' : s - 5 < 1 + (u : Int) + (c : Int) := by omega
                    have t0 : decide (0 < cp) = true := decide_eq_true hz
                    have t1 : decide (0 < (cp : Int)) = true := decide_eq_true (by omega)
                    have hcn : cur ≠ [] := fun h => by
                      have := HX.out.2.2.2.2.2
                      rw [h] at this
                      simp at this
                      omega
                    have hre : (ls ++ [cur]) ++ partsGo R (l.drop (a + 1)) ([] ++ [⟨⟨fi, fa, fs, fc⟩, fv⟩]) (0 + c) = partsGo R l [] 0 := by
                      have h := HV.out.2.2.1
                      rw [if_pos ⟨hcn, .inl hy⟩] at h
                      rw [← h]
                      simp
                    have HRE := Lib.hid hre
                    have hcp0 : 1 ≤ cp := hz
                    clear hre hcn hz 
                    go_wp2_with fail
                    refine (HC.out _).mono ?_
                    rintro e w4 ⟨rfl, hb4⟩
                    have H4 := Lib.hid (And.intro (HX.out.1.below hb4) (And.intro (HX.out.2.1.below hb4) (below_then HX.out.2.2.1 HX.out.2.2.1.size hb4)))
                    have hsz4 := H4.out.2.2.size
                    clear hb4 p0 p1 p2 p3 p4
                    go_wp2_with (at_builtin; refine wpList_appPP w4 rfl _ _ rfl w.heap.size u8 m ls rfl (.slice AP cp cP) cp cur H4.out.1 H4.out.2.1 rfl ?_ ?_ hsz4 ?_)
                    · unfold maxLen; omega
                    · omega
                    intro vo5 w5 hpp5 hg5
                    have hb5 := H4.out.2.2.grown hg5 hsz4 (fun k hk => (H4.out.1.blk hk).1)
                    have H5 := Lib.hid (And.intro (PPOff.anew hpp5) hb5)
                    clear hpp5 hg5 hb5
                    obtain ⟨ps, hps1, hps2, hps3⟩ := PF.nil w5 w.heap.size
                    have hbW := H5.out.2
                    have hov := HV.out.2.1.below (show Below w.heap.size w w5 from hbW)
                    obtain ⟨y0, y1, y2, y3, y4⟩ := HV.out.1 w5 hbW
                    have hrowT : ∀ k, (Value.slice none 0 0).ownBlock = some k → w.heap.size ≤ k ∧ k < (w5).heap.size := fun k hk => OwnPs.blk hps1 hk
                    have HT := Lib.hid (And.intro hps1 (And.intro hps2 (And.intro hps3 (And.intro hov (And.intro hbW (And.intro H5.out.1 (And.intro hrowT (hov.valB fun k hk => (hrowT k hk).1))))))))
                    have hszT := hbW.size
                    clear hps1 hps2 hps3 hov hbW hrowT
                    go_wp2_with (at_builtin; refine wpList_appP1H (cell := fctCells) (val := Fct.val) (ok := fun c => okKy c.key) (sz := 5) w5 rfl _ _ 22 rfl w.heap.size 41 ii iz 64 Try.underlying22 hii hiz hi1 hi2 hi3 (by decide) fct_len fct_one (Value.slice none 0 0) 0 ps rfl HT.out.1 ⟨⟨fi, fa, fs, fc⟩, fv⟩ (.slice B1 L d1) (w5).heap.size rfl rfl HV.out.2.2.2 HT.out.2.2.2.2.2.2.2 _ rfl ?_ ?_ ?_ ?_)
                    · unfold maxLen; omega
                    · omega
                    · exact hszT
                    intro v7 w7 ho7 hg7 hv7
                    have hb7 := HT.out.2.2.2.2.1.grown hg7 hszT (fun k e => (HT.out.2.2.2.2.2.2.1 k e).1)
                    have hpf7 : PF w7 w.heap.size v7 (0 + 1) (([] : List Fct) ++ [⟨⟨fi, fa, fs, fc⟩, fv⟩]) := ⟨_, ho7, by rw [List.map_append, HT.out.2.1]; rfl, fun p hp => by
                      rcases List.mem_append.1 hp with hp | hp
                      · exact (HT.out.2.2.1 p hp).kept hg7 (fun k hk => (HT.out.2.2.2.2.2.2.1 k hk).1)
                      · rw [List.mem_singleton] at hp
                        subst hp
                        exact HT.out.2.2.2.1.kept hg7 (fun k hk => (HT.out.2.2.2.2.2.2.1 k hk).1)⟩
                    have hpo7 := HT.out.2.2.2.2.2.1.grew hg7 (fun k hk => (HT.out.2.2.2.2.2.2.1 k hk).1) hv7
                    obtain ⟨z0, z1, z2, z3, z4⟩ := HV.out.1 w7 hb7
                    obtain ⟨AP7, cP7, rfl, _, _, _⟩ := hpf7.listIn
                    have H7 := Lib.hid (And.intro hpf7 (And.intro hpo7 hb7))
                    clear ho7 hg7 hv7 hpf7 hpo7 hb7 y0 y1 y2 y3 y4
                    go_wp2_with fail
                    refine (HC.out _).mono ?_
                    rintro e w8 ⟨rfl, hb8⟩
                    have H8 := Lib.hid (And.intro (H7.out.1.below hb8) (And.intro (H7.out.2.1.below hb8) (below_then H7.out.2.2 H7.out.2.2.size hb8)))
                    clear hb8 z0 z1 z2 z3 z4
                    go_wp2_with fail
                    go_roundg (q - (a + 1))
                    case measure => omega
                    case rel => exact ⟨a + 1, (m + 1), 0 + 1, 0 + c, (ls ++ [cur]), ([] : List Fct) ++ [⟨⟨fi, fa, fs, fc⟩, fv⟩], by omega, by go_num, by go_num, H8.out.2.1, H8.out.1, H8.out.2.2, HRE.out, by omega, by omega, by omega, fun h => by simp at h⟩
                  · have ty : decide (s - 5 < 1 + (u : Int) + (c : Int)) = false := decide_eq_false (by omega)
                    have tw : ((cp : Int) == 255) = true := by rw [hw]; rfl
                    have tw' : (cp == 255) = true := by rw [hw]; rfl
                    have t0 : decide (0 < cp) = true := decide_eq_true hz
                    have t1 : decide (0 < (cp : Int)) = true := decide_eq_true (by omega)
                    have hcn : cur ≠ [] := fun h => by
                      have := HX.out.2.2.2.2.2
                      rw [h] at this
                      simp at this
                      omega
                    have hre : (ls ++ [cur]) ++ partsGo R (l.drop (a + 1)) ([] ++ [⟨⟨fi, fa, fs, fc⟩, fv⟩]) (0 + c) = partsGo R l [] 0 := by
                      have h := HV.out.2.2.1
                      rw [if_pos ⟨hcn, .inr (by rw [HX.out.2.2.2.2.2]; exact hw)⟩] at h
                      rw [← h]
                      simp
                    have HRE := Lib.hid hre
                    have hcp0 : 1 ≤ cp := hz
                    clear hre hcn hz hw
                    go_wp2_with fail
                    refine (HC.out _).mono ?_
                    rintro e w4 ⟨rfl, hb4⟩
                    have H4 := Lib.hid (And.intro (HX.out.1.below hb4) (And.intro (HX.out.2.1.below hb4) (below_then HX.out.2.2.1 HX.out.2.2.1.size hb4)))
                    have hsz4 := H4.out.2.2.size
                    clear hb4 p0 p1 p2 p3 p4
                    go_wp2_with (at_builtin; refine wpList_appPP w4 rfl _ _ rfl w.heap.size u8 m ls rfl (.slice AP cp cP) cp cur H4.out.1 H4.out.2.1 rfl ?_ ?_ hsz4 ?_)
                    · unfold maxLen; omega
                    · omega
                    intro vo5 w5 hpp5 hg5
                    have hb5 := H4.out.2.2.grown hg5 hsz4 (fun k hk => (H4.out.1.blk hk).1)
                    have H5 := Lib.hid (And.intro (PPOff.anew hpp5) hb5)
                    clear hpp5 hg5 hb5
                    obtain ⟨ps, hps1, hps2, hps3⟩ := PF.nil w5 w.heap.size
                    have hbW := H5.out.2
                    have hov := HV.out.2.1.below (show Below w.heap.size w w5 from hbW)
                    obtain ⟨y0, y1, y2, y3, y4⟩ := HV.out.1 w5 hbW
                    have hrowT : ∀ k, (Value.slice none 0 0).ownBlock = some k → w.heap.size ≤ k ∧ k < (w5).heap.size := fun k hk => OwnPs.blk hps1 hk
                    have HT := Lib.hid (And.intro hps1 (And.intro hps2 (And.intro hps3 (And.intro hov (And.intro hbW (And.intro H5.out.1 (And.intro hrowT (hov.valB fun k hk => (hrowT k hk).1))))))))
                    have hszT := hbW.size
                    clear hps1 hps2 hps3 hov hbW hrowT
                    go_wp2_with (at_builtin; refine wpList_appP1H (cell := fctCells) (val := Fct.val) (ok := fun c => okKy c.key) (sz := 5) w5 rfl _ _ 22 rfl w.heap.size 41 ii iz 64 Try.underlying22 hii hiz hi1 hi2 hi3 (by decide) fct_len fct_one (Value.slice none 0 0) 0 ps rfl HT.out.1 ⟨⟨fi, fa, fs, fc⟩, fv⟩ (.slice B1 L d1) (w5).heap.size rfl rfl HV.out.2.2.2 HT.out.2.2.2.2.2.2.2 _ rfl ?_ ?_ ?_ ?_)
                    · unfold maxLen; omega
                    · omega
                    · exact hszT
                    intro v7 w7 ho7 hg7 hv7
                    have hb7 := HT.out.2.2.2.2.1.grown hg7 hszT (fun k e => (HT.out.2.2.2.2.2.2.1 k e).1)
                    have hpf7 : PF w7 w.heap.size v7 (0 + 1) (([] : List Fct) ++ [⟨⟨fi, fa, fs, fc⟩, fv⟩]) := ⟨_, ho7, by rw [List.map_append, HT.out.2.1]; rfl, fun p hp => by
                      rcases List.mem_append.1 hp with hp | hp
                      · exact (HT.out.2.2.1 p hp).kept hg7 (fun k hk => (HT.out.2.2.2.2.2.2.1 k hk).1)
                      · rw [List.mem_singleton] at hp
                        subst hp
                        exact HT.out.2.2.2.1.kept hg7 (fun k hk => (HT.out.2.2.2.2.2.2.1 k hk).1)⟩
                    have hpo7 := HT.out.2.2.2.2.2.1.grew hg7 (fun k hk => (HT.out.2.2.2.2.2.2.1 k hk).1) hv7
                    obtain ⟨z0, z1, z2, z3, z4⟩ := HV.out.1 w7 hb7
                    obtain ⟨AP7, cP7, rfl, _, _, _⟩ := hpf7.listIn
                    have H7 := Lib.hid (And.intro hpf7 (And.intro hpo7 hb7))
                    clear ho7 hg7 hv7 hpf7 hpo7 hb7 y0 y1 y2 y3 y4
                    go_wp2_with fail
                    refine (HC.out _).mono ?_
                    rintro e w8 ⟨rfl, hb8⟩
                    have H8 := Lib.hid (And.intro (H7.out.1.below hb8) (And.intro (H7.out.2.1.below hb8) (below_then H7.out.2.2 H7.out.2.2.size hb8)))
                    clear hb8 z0 z1 z2 z3 z4
                    go_wp2_with fail
                    go_roundg (q - (a + 1))
                    case measure => omega
                    case rel => exact ⟨a + 1, (m + 1), 0 + 1, 0 + c, (ls ++ [cur]), ([] : List Fct) ++ [⟨⟨fi, fa, fs, fc⟩, fv⟩], by omega, by go_num, by go_num, H8.out.2.1, H8.out.1, H8.out.2.2, HRE.out, by omega, by omega, by omega, fun h => by simp at h⟩
                  · have ty : decide (s - 5 < 1 + (u : Int) + (c : Int)) = false := decide_eq_false (by omega)
                    have tw : ((cp : Int) == 255) = false := beq_eq_false_iff_ne.2 (by omega)
                    have tw' : (cp == 255) = false := beq_eq_false_iff_ne.2 hw
                    have t0 : decide (0 < cp) = true := decide_eq_true hz
                    have t1 : decide (0 < (cp : Int)) = true := decide_eq_true (by omega)
                    have hre : ls ++ partsGo R (l.drop (a + 1)) (cur ++ [⟨⟨fi, fa, fs, fc⟩, fv⟩]) (u + c) = partsGo R l [] 0 := by
                      have h := HV.out.2.2.1
                      rw [if_neg (fun h => by
                        rcases h.2 with h | h
                        · exact hy h
                        · rw [HX.out.2.2.2.2.2] at h
                          exact hw h)] at h
                      exact h
                    have HRE := Lib.hid hre
                    have hcp' : cp ≤ 254 := by omega
                    have huc : u + c ≤ 250 := by omega
                    clear hre hz hw
                    go_wp2_with fail
                    refine (HC.out _).mono ?_
                    rintro e w4 ⟨rfl, hb4⟩
                    have H4 := Lib.hid (And.intro (HX.out.1.below hb4) (And.intro (HX.out.2.1.below hb4) (below_then HX.out.2.2.1 HX.out.2.2.1.size hb4)))
                    have hsz4 := H4.out.2.2.size
                    clear hb4 p0 p1 p2 p3 p4
                    obtain ⟨ps, hps1, hps2, hps3⟩ := H4.out.2.1
                    have hbW := H4.out.2.2
                    have hov := HV.out.2.1.below (show Below w.heap.size w w4 from hbW)
                    obtain ⟨y0, y1, y2, y3, y4⟩ := HV.out.1 w4 hbW
                    have hrowT : ∀ k, (Value.slice AP cp cP).ownBlock = some k → w.heap.size ≤ k ∧ k < (w4).heap.size := fun k hk => OwnPs.blk hps1 hk
                    have HT := Lib.hid (And.intro hps1 (And.intro hps2 (And.intro hps3 (And.intro hov (And.intro hbW (And.intro H4.out.1 (And.intro hrowT (hov.valB fun k hk => (hrowT k hk).1))))))))
                    have hszT := hbW.size
                    clear hps1 hps2 hps3 hov hbW hrowT
                    go_wp2_with (at_builtin; refine wpList_appP1H (cell := fctCells) (val := Fct.val) (ok := fun c => okKy c.key) (sz := 5) w4 rfl _ _ 22 rfl w.heap.size 41 ii iz 64 Try.underlying22 hii hiz hi1 hi2 hi3 (by decide) fct_len fct_one (Value.slice AP cp cP) cp ps rfl HT.out.1 ⟨⟨fi, fa, fs, fc⟩, fv⟩ (.slice B1 L d1) (w4).heap.size rfl rfl HV.out.2.2.2 HT.out.2.2.2.2.2.2.2 _ rfl ?_ ?_ ?_ ?_)
                    · unfold maxLen; omega
                    · omega
                    · exact hszT
                    intro v7 w7 ho7 hg7 hv7
                    have hb7 := HT.out.2.2.2.2.1.grown hg7 hszT (fun k e => (HT.out.2.2.2.2.2.2.1 k e).1)
                    have hpf7 : PF w7 w.heap.size v7 (cp + 1) (cur ++ [⟨⟨fi, fa, fs, fc⟩, fv⟩]) := ⟨_, ho7, by rw [List.map_append, HT.out.2.1]; rfl, fun p hp => by
                      rcases List.mem_append.1 hp with hp | hp
                      · exact (HT.out.2.2.1 p hp).kept hg7 (fun k hk => (HT.out.2.2.2.2.2.2.1 k hk).1)
                      · rw [List.mem_singleton] at hp
                        subst hp
                        exact HT.out.2.2.2.1.kept hg7 (fun k hk => (HT.out.2.2.2.2.2.2.1 k hk).1)⟩
                    have hpo7 := HT.out.2.2.2.2.2.1.grew hg7 (fun k hk => (HT.out.2.2.2.2.2.2.1 k hk).1) hv7
                    obtain ⟨z0, z1, z2, z3, z4⟩ := HV.out.1 w7 hb7
                    obtain ⟨AP7, cP7, rfl, _, _, _⟩ := hpf7.listIn
                    have H7 := Lib.hid (And.intro hpf7 (And.intro hpo7 hb7))
                    clear ho7 hg7 hv7 hpf7 hpo7 hb7 y0 y1 y2 y3 y4
                    go_wp2_with fail
                    refine (HC.out _).mono ?_
                    rintro e w8 ⟨rfl, hb8⟩
                    have H8 := Lib.hid (And.intro (H7.out.1.below hb8) (And.intro (H7.out.2.1.below hb8) (below_then H7.out.2.2 H7.out.2.2.size hb8)))
                    clear hb8 z0 z1 z2 z3 z4
                    go_wp2_with fail
                    go_roundg (q - (a + 1))
                    case measure => omega
                    case rel => exact ⟨a + 1, m, cp + 1, u + c, ls, cur ++ [⟨⟨fi, fa, fs, fc⟩, fv⟩], by omega, by go_num, by go_num, H8.out.2.1, H8.out.1, H8.out.2.2, HRE.out, by omega, by omega, by omega, fun h => by simp at h⟩
                · obtain rfl : a = q := by omega
                  have hge3 : ¬ (a : Int) < (a : Int) := by omega
                  have heq := HX.out.2.2.2.1
                  rw [List.drop_of_length_le (by have := H.out.2.1; omega)] at heq
                  by_cases hz : cp = 0
                  · have t0 : decide (0 < cp) = false := decide_eq_false (by omega)
                    have t1 : ¬ 0 < (cp : Int) := by omega
                    have hcn : cur = [] := List.eq_nil_of_length_eq_zero (by rw [HX.out.2.2.2.2.2]; exact hz)
                    rw [partsGo, if_pos hcn, List.append_nil] at heq
                    have hpp := HX.out.1.pp
                    have HF := Lib.hid (And.intro heq hpp)
                    clear heq hcn hz hpp
                    go_wp2_with fail
                    go_ret2
                    rw [HRES.out, ← HF.out.1]
                    obtain ⟨vs, e1, e2, e3, e4⟩ := HF.out.2
                    exact ⟨_, rfl, ⟨vs, e1, by rw [← e1, List.length_map], by rw [← e1, List.length_map, e2]; exact e3, e4⟩, HX.out.2.2.1⟩
                  · have t0 : decide (0 < cp) = true := decide_eq_true (by omega)
                    have t1 : 0 < (cp : Int) := by omega
                    have hcn : cur ≠ [] := fun h => by
                      have := HX.out.2.2.2.2.2
                      rw [h] at this
                      simp at this
                      omega
                    rw [partsGo, if_neg hcn] at heq
                    have HF := Lib.hid heq
                    clear heq hcn hz
                    go_wp2_with (at_builtin; refine wpList_appPP wr rfl _ _ rfl w.heap.size u8 m ls rfl (.slice AP cp cP) cp cur HX.out.1 HX.out.2.1 rfl ?_ ?_ hsz3 ?_)
                    · unfold maxLen; omega
                    · omega
                    intro vo5 w5 hpp5 hg5
                    have hb5 := HX.out.2.2.1.grown hg5 hsz3 (fun k hk => (HX.out.1.blk hk).1)
                    have H5 := Lib.hid (And.intro hpp5 hb5)
                    clear hpp5 hg5 hb5
                    go_wp2_with fail
                    go_ret2
                    rw [HRES.out, ← HF.out]
                    obtain ⟨vs, e1, e2, e3, e4⟩ := H5.out.1
                    exact ⟨_, rfl, ⟨vs, e1, by rw [← e1, List.length_map], by rw [← e1, List.length_map, e2]; exact e3, e4⟩, H5.out.2⟩
    · have HORD := Lib.hid (show ordB l = false by simpa using hoo)
      have HF := Lib.hid (show r = ([], 2) by
        rw [← H.out.2.2.2]
        have hc : cutsS s l = ([], 2) := by
          unfold cutsS
          rw [if_neg (fun h => h ⟨hs1, hs2⟩), if_pos (fun hg => hoo hg.2)]
        unfold dPartsS
        rw [hc]
        rfl)
      clear hoo
      go_enter Try.func36, Try.ntmps36
      go_wp2_with fail
      refine (HSZ.out _).mono ?_
      rintro e w0 ⟨rfl, rfl⟩
      go_wp2_with fail
      refine (HO.out w H.out.1).mono ?_
      rw [HORD.out]
      rintro e w1 ⟨rfl, hb1⟩
      have H1 := Lib.hid hb1
      clear hb1
      go_wp2_with fail
      go_ret2
      rw [HF.out]
      exact ⟨_, rfl, PP.nil _ _, H1.out⟩
  · have HSZ := Lib.hid (fun w => dSize_no s w hs)
    have HF := Lib.hid (show r = ([], 2) by
      rw [← H.out.2.2.2]
      have hc : cutsS s l = ([], 2) := by
        unfold cutsS
        rw [if_pos hs]
      unfold dPartsS
      rw [hc]
      rfl)
    clear hs
    go_enter Try.func36, Try.ntmps36
    go_wp2_with fail
    refine (HSZ.out _).mono ?_
    rintro e w0 ⟨rfl, rfl⟩
    go_wp2_with fail
    go_ret2
    rw [HF.out]
    exact ⟨_, rfl, PP.nil _ _, Below.refl _ _⟩
end Go.Proofs.Ytckpgbkabbddnaa

/- Layer 13, the document's puts: contract. -/
namespace Go.Proofs.Ytckpgbkabbddnaa
open Go.RowKit

theorem chg_infoP : (Try.prog.info? 53).map (fun i => (i.zero.map (·.cells.size), i.size, i.bytes)) = some (some 6, 6, 72) := by kernel_rfl
theorem chg_infoP' : ∃ i z, Try.prog.info? 53 = some i ∧ i.zero = some z ∧ i.size = 6 ∧ i.bytes = 72 ∧ z.cells.size = 6 := by
  obtain ⟨i, hi, he⟩ := Option.map_eq_some_iff.1 chg_infoP
  simp only [Prod.mk.injEq] at he
  obtain ⟨z, hz, hz5⟩ := Option.map_eq_some_iff.1 he.1
  exact ⟨i, z, hi, hz, he.2.1, he.2.2, hz5⟩
def asPut (f : Fct) : Chg := ⟨f.key, f.val, false⟩

set_option maxRecDepth 100000 in
set_option maxHeartbeats 4000000 in
theorem dPuts_any (w : World) (A : Option Addr) (n d : Nat) (l : List Fct) (h : FctsIn w A n l) (hn : n * 64 ≤ 140737488351232) :
    Calls Try.prog 38 #[.slice A n d] w fun e w' => ∃ v, e = .returned v ∧ OwnL chgCells Chg.val (fun c => okKy c.key) 6 53 w' w.heap.size v n (l.map asPut) ∧ Below w.heap.size w w' := by
  have H := Lib.hid (And.intro h h.1)
  have hA0 : ∀ ad, A = some ad → 0 < n → ad.block < w.heap.size := fun ad e h0 => by
    obtain ⟨f, hf⟩ : ∃ f, l[0]? = some f := ⟨_, List.getElem?_eq_getElem (by have := H.out.2; omega)⟩
    obtain ⟨_, ad', _, _, hA', _, _, _, hb, _⟩ := FctsIn.at_ H.out.1 hf
    rw [e] at hA'
    injection hA' with hA'
    subst hA'
    rwa [block_add] at hb
  clear h
  obtain ⟨ii, iz, hii, hiz, hi1, hi2, hi3⟩ := chg_infoP'
  go_enter Try.func38, Try.ntmps38
  go_wp2_with fail
  go_loopg [3, 4] n (fun k v i wr => ∃ (j : Nat) (ps : List (Chg × Value)), j + k = n ∧ i = .int .i64 j ∧ OwnPs chgCells Chg.val (fun c => okKy c.key) 6 53 wr w.heap.size v j ps ∧ ps.map (·.1) = (l.take j).map asPut ∧ Below w.heap.size w wr)
  case atStart => exact ⟨0, [], by omega, rfl, OwnPs.nil _ _ _, rfl, Below.refl _ _⟩
  case round =>
    obtain ⟨j, ps, hj, rfl, ho, hps, hb⟩ := hrel
    have HX := Lib.hid (And.intro hj (And.intro ho (And.intro hps hb)))
    have hbs := hb.size
    clear hj ho hps hb
    by_cases hlt : j < n
    · obtain ⟨f, hf⟩ : ∃ f, l[j]? = some f := ⟨_, List.getElem?_eq_getElem (by have := H.out.2; omega)⟩
      obtain ⟨hok0, adv, vv, hA', hvb, _⟩ := H.out.1.2 j f hf
      obtain ⟨okf, ad, B1, d1, hA, hr1, l1, l2, hblk, x0, x1, x2, x3, x4⟩ := FctsIn.at_ H.out.1 hf
      subst hA
      have hjn : (j : Int) < (n : Int) := by omega
      obtain ⟨L, hL⟩ : ∃ L, f.val.length = L := ⟨_, rfl⟩
      have hbase : ∀ w2, Below w.heap.size w w2 → (w2.cell? (ad.add (j * 5)) = some (.int .i64 f.key.ino) ∧ w2.cell? ⟨(ad.add (j * 5)).block, (ad.add (j * 5)).off + 1, none⟩ = some (.int .u8 (f.key.what.toNat : Int)) ∧ w2.cell? ⟨(ad.add (j * 5)).block, (ad.add (j * 5)).off + 2, none⟩ = some (.string f.key.name) ∧ w2.cell? ⟨(ad.add (j * 5)).block, (ad.add (j * 5)).off + 3, none⟩ = some (.int .i64 f.key.chunk) ∧ w2.cell? ⟨(ad.add (j * 5)).block, (ad.add (j * 5)).off + 4, none⟩ = some (.slice B1 L d1)) := fun w2 hb2 => by
        have e := hb2.block _ hblk
        rw [← hL]
        exact ⟨(World.cell?_of_block e).trans x0, (World.cell?_of_block (a := ⟨(ad.add (j * 5)).block, (ad.add (j * 5)).off + 1, none⟩) e).trans x1, (World.cell?_of_block (a := ⟨(ad.add (j * 5)).block, (ad.add (j * 5)).off + 2, none⟩) e).trans x2, (World.cell?_of_block (a := ⟨(ad.add (j * 5)).block, (ad.add (j * 5)).off + 3, none⟩) e).trans x3, (World.cell?_of_block (a := ⟨(ad.add (j * 5)).block, (ad.add (j * 5)).off + 4, none⟩) e).trans x4⟩
      obtain ⟨p0, p1, p2, p3, p4⟩ := hbase wr HX.out.2.2.2
      have hrow : ∀ k, u3.ownBlock = some k → w.heap.size ≤ k ∧ k < wr.heap.size := fun k hk => OwnPs.blk HX.out.2.1 hk
      have hvw : ValB wr u3.ownBlock (.slice B1 L d1) f.val := by
        refine ⟨B1, d1, by rw [hL], hr1.below HX.out.2.2.2, l1, l2, fun ad2 e2 h0 he => ?_⟩
        have h1 := hr1.lt e2 (by rw [bv_length]; exact h0)
        have := (hrow _ he.symm).1
        omega
      have hsz1 : j + 1 ≤ maxLen := by unfold maxLen; omega
      have hsz2 : (j + 1 + (j + 1) / 4 + 192) * 72 ≤ 281474976710656 := by omega
      have HSZ := Lib.hid (And.intro hsz1 hsz2)
      have htk : (l.take (j + 1)).map asPut = (l.take j).map asPut ++ [asPut f] := by rw [List.take_add_one, hf]; simp
      have hbd : Below wr.heap.size wr wr.drew := (Below.refl wr.heap.size wr).drew
      have PQ : ∀ (v3 : Value) (w3 : World), OwnPs chgCells Chg.val (fun c => okKy c.key) 6 53 w3 w.heap.size v3 (j + 1) (ps ++ [(asPut f, .slice B1 L d1)]) → wr.drew.grownBy w3 u3.ownBlock →
          (w3.cell? (ad.add (j * 5)) = some (.int .i64 f.key.ino) ∧ w3.cell? ⟨(ad.add (j * 5)).block, (ad.add (j * 5)).off + 1, none⟩ = some (.int .u8 (f.key.what.toNat : Int)) ∧ w3.cell? ⟨(ad.add (j * 5)).block, (ad.add (j * 5)).off + 2, none⟩ = some (.string f.key.name) ∧ w3.cell? ⟨(ad.add (j * 5)).block, (ad.add (j * 5)).off + 3, none⟩ = some (.int .i64 f.key.chunk) ∧ w3.cell? ⟨(ad.add (j * 5)).block, (ad.add (j * 5)).off + 4, none⟩ = some (.slice B1 L d1)) ∧
          Hid (OwnPs chgCells Chg.val (fun c => okKy c.key) 6 53 w3 w.heap.size v3 (j + 1) (ps ++ [(asPut f, .slice B1 L d1)]) ∧ (ps ++ [(asPut f, Value.slice B1 L d1)]).map (·.1) = (l.take (j + 1)).map asPut ∧ Below w.heap.size w w3) := fun v3 w3 ho3 hg3 => by
        have hb3 := (below_then HX.out.2.2.2 hbs hbd).grown hg3 hbs (fun k e => (hrow k e).1)
        exact ⟨hbase w3 hb3, ho3, by rw [List.map_append, HX.out.2.2.1, htk]; rfl, hb3⟩
      have HQ := Lib.hid (And.intro (OwnPs.below HX.out.2.1 hbd) (And.intro (hvw.below hbd) (And.intro hbs PQ)))
      have HV := Lib.hid okf
      clear x0 x1 x2 x3 x4 hr1 hf okf hbase hrow htk hsz1 hsz2 hvw PQ hbd hok0 hvb hA' hA0
      obtain ⟨⟨fi, fa, fs, fc⟩, fv⟩ := f
      unfold asPut at HQ
      dsimp only at p0 p1 p2 p3 p4 HQ HV
      go_wp2_with fail
      go_region_held3 (fun w' => w'.cell? (ad.add (j * 5)) = some (.int .i64 fi) ∧ w'.cell? ⟨(ad.add (j * 5)).block, (ad.add (j * 5)).off + 1, none⟩ = some (.int .u8 (fa.toNat : Int)) ∧ w'.cell? ⟨(ad.add (j * 5)).block, (ad.add (j * 5)).off + 2, none⟩ = some (.string fs) ∧ w'.cell? ⟨(ad.add (j * 5)).block, (ad.add (j * 5)).off + 3, none⟩ = some (.int .i64 fc) ∧ w'.cell? ⟨(ad.add (j * 5)).block, (ad.add (j * 5)).off + 4, none⟩ = some (.slice B1 L d1))
        (first | exact ⟨p0, p1, p2, p3, p4⟩ | exact ⟨Lib.cell?_alloc_some _ p0, Lib.cell?_alloc_some _ p1, Lib.cell?_alloc_some _ p2, Lib.cell?_alloc_some _ p3, Lib.cell?_alloc_some _ p4⟩ | exact hq')
        (first
          | (refine step_appP1 (cell := chgCells) (val := Chg.val) (ok := fun c => okKy c.key) (sz := 6) wr.drew rfl (.tmp 11) (.tmp 23) 31 rfl w.heap.size 53 ii iz 72 Try.underlying31 hii hiz hi1 hi2 hi3 (by decide) chg_len chg_one u3 j ps (by simp [Act.eval, Act.put]) HQ.out.1 ⟨⟨fi, fa, fs, fc⟩, fv, false⟩ (.slice B1 L d1) (by simp [Act.eval, Act.put]) HV.out HQ.out.2.1 _ (by unfold chgCells; simp) HSZ.out.1 HSZ.out.2 HQ.out.2.2.1 ?_; intro v3 w3 ho3 hg3 hv3; obtain ⟨hq', HR⟩ := HQ.out.2.2.2 v3 w3 ho3 hg3; clear ho3 hg3 hv3))
      all_goals
        go_wp2_with fail
        go_roundg (n - (j + 1))
        case measure => have := HX.out.1; omega
        case rel => exact ⟨j + 1, _, by have := HX.out.1; omega, by go_num, HR.out.1, HR.out.2.1, HR.out.2.2⟩
    · obtain rfl : j = n := by have := HX.out.1; omega
      have hge : ¬ (j : Int) < (j : Int) := by omega
      have hps := HX.out.2.2.1
      rw [List.take_of_length_le (by have := H.out.2; omega)] at hps
      have HF := Lib.hid (And.intro (OwnPs.list HX.out.2.1) hps)
      clear hps hA0
      go_wp2_with fail
      go_ret
      have h1 := HF.out.1
      rw [HF.out.2] at h1
      exact ⟨_, rfl, h1, HX.out.2.2.2⟩
end Go.Proofs.Ytckpgbkabbddnaa

/- Layer 13, the document's Pages and Many: contracts. -/
namespace Go.Proofs.Ytckpgbkabbddnaa
open Go.RowKit

/-- One of the rows of facts. -/
theorem PP.at_ {w : World} {B : Nat} {v : Value} {n : Nat} {ls : List (List Fct)} (h : PP w B v n ls) {i : Nat} {p : List Fct} (hi : ls[i]? = some p) :
    ∃ ad c Bp dp, v = .slice (some ad) n c ∧ ad.block < w.heap.size ∧ w.cell? (ad.add i) = some (.slice Bp p.length dp) ∧ FctsIn w Bp p.length p ∧ p.length ≤ dp ∧ dp ≤ maxLen := by
  obtain ⟨vs, h1, h2, h3, h5⟩ := h
  rw [← h1, List.getElem?_map, Option.map_eq_some_iff] at hi
  obtain ⟨y, hq, hy⟩ := hi
  subst hy
  obtain ⟨hpf, _⟩ := h5 _ (List.mem_of_getElem? hq)
  obtain ⟨Bp, dp, hyv, hin, hd1, hd2⟩ := hpf.listIn
  have hlt := (List.getElem?_eq_some_iff.1 hq).1
  have h3' := h3
  rcases h3.2 with ⟨hv, h0⟩ | ⟨g, cap, cur, hv, hb, hg, hnc, hcm, hcs, htake⟩
  · omega
  · refine ⟨⟨g, 0, none⟩, cap, Bp, dp, hv, (h3'.lt g (by rw [hv]; rfl)).2, ?_, hin, hd1, hd2⟩
    exact World.ownsRow.cells (g := g) h3' (by rw [hv]; rfl) _ _ (by rw [List.getElem?_map, hq, ← hyv]; rfl)
theorem PP.below {w w' : World} {B : Nat} {v : Value} {n : Nat} {ls : List (List Fct)} (h : PP w B v n ls) (hb : Below w.heap.size w w') : PP w' B v n ls := by
  obtain ⟨vs, h1, h2, h3, h5⟩ := h
  exact ⟨vs, h1, h2, h3.kept (grown_of_below hb none) (by cases v.ownBlock with | none => exact .inl rfl | some k => exact .inr (by simp)), fun p hp => ⟨(h5 p hp).1.below hb, (h5 p hp).2⟩⟩
theorem PP.slice {w : World} {B : Nat} {v : Value} {n : Nat} {ls : List (List Fct)} (h : PP w B v n ls) : ∃ A c, v = .slice A n c := by
  obtain ⟨vs, h1, h2, h3, h5⟩ := h
  rcases h3.2 with ⟨hv, h0⟩ | ⟨g, cap, cur, hv, hb, hg, hnc, hcm, hcs, htake⟩
  · exact ⟨none, 0, by rw [hv, h0]⟩
  · exact ⟨_, cap, hv⟩

set_option maxRecDepth 100000 in
set_option maxHeartbeats 4000000 in
theorem dPages_any (w : World) (s : Int) (A : Option Addr) (n d : Nat) (l : List Fct) (h : FctsIn w A n l) (hv : ∀ f ∈ l, f.val.length ≤ 140737488351232) (hn : n * 64 ≤ 140737488351232) :
    Calls Try.prog 15 #[.int .i64 s, .slice A n d] w (PagesEnd w (pagesS s l)) := by
  have HC := Lib.hid (dParts_any w s A n d l h hv hn)
  have hnl := h.1
  clear h hv
  obtain ⟨r, hr⟩ : ∃ r, pagesS s l = r := ⟨_, rfl⟩
  rw [hr]
  have hcode := cutsS_code s l
  by_cases h0 : (cutsS s l).2 = 0
  · have hat := cutsS_at h0
    have hle := cutsS_len h0
    have hok := cutsS_ok h0
    have hr1 : ((partsS s l).map (pageOf s), 0) = r := by rw [← hr]; unfold pagesS; rw [if_neg (fun h => h h0)]
    have hpl : (partsS s l).length ≤ n := by unfold partsS; rw [partsC_len]; omega
    have hput : ∀ (i : Nat) (p : List Fct), (partsS s l)[i]? = some p → p.length * 64 ≤ 140737488351232 ∧ recPutS s (p.map asPut) = (pageOf s p, 0) := by
      intro i p hp
      obtain ⟨x, e1, e2, e3, _⟩ := hat i p hp
      refine ⟨?_, by rw [e3]; exact (part_page hok.1 hok.2.1.1 e2).2.1⟩
      have := part_len (L := l) (a := x) e2.2.1
      rw [← e3] at this
      have := e2.2.2.1
      omega
    have hd : dPartsS s l = (partsS s l, 0) := by unfold dPartsS; rw [if_neg (fun h => h h0)]
    rw [hd] at HC
    generalize partsS s l = ps at *
    obtain ⟨M, hM⟩ : ∃ M, ps.length = M := ⟨_, rfl⟩
    rw [hM] at hpl
    have HP := Lib.hid (And.intro hr1 (And.intro hput hM))
    clear hr hcode hat hle hok hr1 hput hd h0 hnl
    obtain ⟨pi, pz, hpi, hpz, hp1, hp2, hp3⟩ := pg_info'
    go_enter Try.func15, Try.ntmps15
    go_wp2_with fail
    refine HC.out.mono ?_
    rintro e w1 ⟨v1, rfl, ho1, hb1⟩
    dsimp only at ho1 ⊢
    rw [HP.out.2.2] at ho1
    obtain ⟨A1, c1, rfl⟩ := ho1.slice
    have H1 := Lib.hid (And.intro ho1 hb1)
    clear ho1 hb1
    go_wp2_with fail
    go_loopg [8, 9] M (fun k o i wr => ∃ j : Nat, j + k = M ∧ i = .int .i64 j ∧ OwnR wr w1.heap.size o j ((ps.take j).map (pageOf s)) ∧ Below w1.heap.size w1 wr)
    case atStart => exact ⟨0, by omega, rfl, OwnL.nil _ _ _, Below.refl _ _⟩
    case round =>
      obtain ⟨j, hj, rfl, ho, hb⟩ := hrel
      have HX := Lib.hid (And.intro hj (And.intro ho (And.intro hb (below_then H1.out.2 H1.out.2.size hb))))
      clear hj ho hb
      by_cases hlt : j < M
      · obtain ⟨p, hp⟩ : ∃ p, ps[j]? = some p := ⟨_, List.getElem?_eq_getElem (by have := HP.out.2.2; omega)⟩
        obtain ⟨hp64, hput⟩ := HP.out.2.1 j p hp
        obtain ⟨ad, cc, Bp, dp, hA, hblk, x0, hin, hd1, hd2⟩ := PP.at_ H1.out.1 hp
        injection hA with hA _ hcc
        subst hA hcc
        have p0 := (World.cell?_of_block (w := w1) (w' := wr) (a := ad.add j) (by rw [block_add]; exact HX.out.2.2.1.block _ hblk)).trans x0
        have hjM : (j : Int) < (M : Int) := by omega
        have htk : (ps.take (j + 1)).map (pageOf s) = (ps.take j).map (pageOf s) ++ [pageOf s p] := by
          rw [List.take_add_one, hp, List.map_append]
          rfl
        obtain ⟨q, hq⟩ : ∃ q, p.length = q := ⟨_, rfl⟩
        have hin := ListIn.below fct_len (by decide) hin HX.out.2.2.1
        rw [hq] at p0 hp64 hin hd1
        have HPU := Lib.hid (dPuts_any wr Bp q dp p hin hp64)
        have HV := Lib.hid (And.intro hput htk)
        clear hp x0 hput htk hin hq
        go_wp2_with fail
        refine HPU.out.mono ?_
        rintro e w2 ⟨v2, rfl, ho2, hb2⟩
        obtain ⟨A2, c2, rfl, hin2, hl2, hm2, _⟩ := OwnL.listIn chg_len ho2
        have H2 := Lib.hid (And.intro hin2 (And.intro (HX.out.2.1.below hb2) (below_then HX.out.2.2.1 HX.out.2.2.1.size hb2)))
        clear ho2 hin2 hb2
        go_wp2_with fail
        refine (dRecPut_any w2 s A2 q c2 _ H2.out.1 (by unfold maxLen; omega)).mono ?_
        rintro e w3 ⟨v3, rfl, ho3, hb3⟩
        rw [HV.out.1] at ho3 ⊢
        dsimp only at ho3 ⊢
        have hvr := valB_row ho3 (row := u8.ownBlock) (fun k hk => (OwnL.blk H2.out.2.1 hk).2)
        obtain ⟨A3, c3, rfl, _, _, _, _⟩ := ho3.slice
        have htk := HV.out.2
        have hox := H2.out.2.1.below hb3
        generalize (ps.take j).map (pageOf s) = G at hox htk
        generalize pageOf s p = pg at *
        have H3 := Lib.hid (And.intro hox (And.intro hvr (And.intro (below_then H2.out.2.2 H2.out.2.2.size hb3) htk)))
        clear hox hvr ho3 hb3 htk
        go_wp2_with (at_builtin; refine wpList_appL1H (cell := pgCells) (val := id) (ok := pgOk) (sz := 1) w3 rfl _ _ 23 rfl w1.heap.size 28 pi pz 24 Try.underlying23 hpi hpz hp1 hp2 hp3 (by decide) pg_len pg_one u8 j G rfl H3.out.1 pg (.slice A3 pg.length c3) _ rfl rfl trivial H3.out.2.1 _ rfl ?_ ?_ ?_ ?_)
        · unfold maxLen; omega
        · omega
        · exact H3.out.2.2.1.size
        intro v4 w4 ho4 hg4 hv4
        rw [← H3.out.2.2.2] at ho4
        have H4 := Lib.hid (And.intro ho4 (H3.out.2.2.1.grown hg4 H3.out.2.2.1.size (fun k e => (OwnL.blk H3.out.1 e).1)))
        clear ho4 hg4 hv4
        go_wp2_with fail
        go_roundg (M - (j + 1))
        case measure => have := HX.out.1; omega
        case rel => exact ⟨j + 1, by have := HX.out.1; omega, by go_num, H4.out.1, H4.out.2⟩
      · obtain rfl : j = M := by have := HX.out.1; omega
        have hge : ¬ (j : Int) < (j : Int) := by omega
        have ho := HX.out.2.1
        have hpl : ps.length = j := HP.out.2.2
        rw [List.take_of_length_le (by omega)] at ho
        have ho2 : OwnR wr w.heap.size u8 r.1.length r.1 := by
          rw [← HP.out.1]
          dsimp only
          rw [List.length_map, hpl]
          exact ho.lower H1.out.2.size
        have hr2 : r.2 = 0 := by rw [← HP.out.1]
        have HE := Lib.hid (And.intro ho2 hr2)
        clear ho ho2 hr2 hpl
        go_wp2_with fail
        go_ret2
        refine ⟨u8, ?_, HE.out.1, HX.out.2.2.2⟩
        rw [HE.out.2]
        rfl
  · have hr1 : r = ([], (cutsS s l).2) := by
      rw [← hr]
      unfold pagesS
      exact if_pos h0
    have hd : dPartsS s l = ([], (cutsS s l).2) := by unfold dPartsS; exact if_pos h0
    rw [hd] at HC
    generalize (cutsS s l).2 = ce at *
    have hne : ((ce : Int) != 0) = true := by simp; omega
    have HRR := Lib.hid hr1
    clear hr hr1 hd h0
    go_enter Try.func15, Try.ntmps15
    go_wp2_with fail
    refine HC.out.mono ?_
    rintro e w1 ⟨v1, rfl, ho1, hb1⟩
    have H1 := Lib.hid hb1
    clear hb1 ho1
    go_wp2_with fail
    go_ret2
    rw [HRR.out]
    exact ⟨_, rfl, OwnL.nil _ _ _, H1.out⟩

def manyS (s : Int) (l : List Fct) : Nat × Nat := ((cutsS s l).1.length, (cutsS s l).2)
theorem manyS_d (s : Int) (l : List Fct) : ((dPartsS s l).1.length, (dPartsS s l).2) = manyS s l := by
  unfold dPartsS manyS
  split
  · rename_i h
    have : (cutsS s l).1 = [] := by
      unfold cutsS at h ⊢
      split
      · rfl
      · split
        · rfl
        · split
          · rfl
          · rename_i h1 h2 h3
            rw [if_neg h1, if_neg h2, if_neg h3] at h
            exact absurd rfl h
    rw [this]
    rfl
  · dsimp only
    rename_i h
    unfold partsS
    rw [partsC_len]
    have : (cutsS s l).2 = 0 := Classical.not_not.1 h
    rw [this]
theorem dMany_any (w : World) (s : Int) (A : Option Addr) (n d : Nat) (l : List Fct) (h : FctsIn w A n l) (hv : ∀ f ∈ l, f.val.length ≤ 140737488351232) (hn : n * 64 ≤ 140737488351232) :
    Calls Try.prog 17 #[.int .i64 s, .slice A n d] w fun e w' => e = .returned (.tuple #[.int .i64 ((manyS s l).1 : Int), .int .i64 ((manyS s l).2 : Int)]) ∧ Below w.heap.size w w' := by
  have HC := Lib.hid (dParts_any w s A n d l h hv hn)
  rw [← manyS_d]
  clear h hv hn
  generalize dPartsS s l = r at *
  obtain ⟨ls, ce⟩ := r
  dsimp only at HC ⊢
  obtain ⟨M, hM⟩ : ∃ M, ls.length = M := ⟨_, rfl⟩
  have HM := Lib.hid hM
  rw [hM]
  clear hM
  go_enter Try.func17, Try.ntmps17
  go_wp2_with fail
  refine HC.out.mono ?_
  rintro e w1 ⟨v1, rfl, ho1, hb1⟩
  dsimp only at ho1 ⊢
  rw [HM.out] at ho1
  obtain ⟨A1, c1, rfl⟩ := ho1.slice
  have H1 := Lib.hid hb1
  clear ho1 hb1
  go_wp2_with fail
  go_ret2
  exact ⟨rfl, H1.out⟩
end Go.Proofs.Ytckpgbkabbddnaa
