import Derived.Test.YtegoeagmadhpgaaWorks15M
import Derived.Test.YtegoeagmadhpgaaLeafKM
import Derived.Test.YtegoeagmadhpgaaDLensM
import Derived.Test.YtegoeagmadhpgaaClsM
set_option linter.unusedVariables false
set_option linter.unusedSimpArgs false
/- Layer 15: LeafLengths. -/
namespace Go.Proofs.Ytegoeagmadhpgaa
open Go.RowKit

set_option maxRecDepth 100000 in
set_option maxHeartbeats 4000000 in
theorem walkLeafLengths (w : World) (A : Option Addr) (d : Nat) (l : List Fct) (hin : FctsIn w A l.length l) (hvl : ∀ f ∈ l, f.val.length ≤ 140737488351232) (hn : l.length * 64 ≤ 140737488351232) :
    Calls Try.prog 4 #[.slice A l.length d] w fun e w' => e = .returned (.bool true) ∧ Below w.heap.size w w' := by
  obtain ⟨n, hl⟩ : ∃ n, l.length = n := ⟨_, rfl⟩
  rw [hl] at hin hn ⊢
  have H := Lib.hid (And.intro hin (And.intro hl hvl))
  have HP := Lib.hid (fun w' (hb : Below w.heap.size w w') => putLeaf_any w' 256 A n d l (ListIn.below fct_len (by decide) hin hb) hvl (by omega))
  clear hin hl hvl
  obtain ⟨r, hr⟩ : ∃ r, putLeafS 256 l = r := ⟨_, rfl⟩
  rw [hr] at HP
  have hcode := putLeafS_code' 256 l
  rw [hr] at hcode
  have HR := Lib.hid hr
  clear hr
  have HL := Lib.hid (fun w => lives15_any w)
  go_enter Try.func4, Try.ntmps4
  go_wp2_with fail
  go_loopg [3, 4] n (fun k t i wr => ∃ j : Nat, j + k = n ∧ i = .int .i64 j ∧ t = .int .i64 (IntKind.i64.wrap ((1 + ((l.take j).map lenS).sum : Nat) : Int)) ∧ Below w.heap.size w wr)
  case atStart => exact ⟨0, by omega, rfl, rfl, Below.refl _ _⟩
  case round =>
    obtain ⟨j, hj, rfl, rfl, hb⟩ := hrel
    have HX := Lib.hid (And.intro hj hb)
    obtain ⟨hz1, hz2⟩ := wrap_bd ((1 + ((l.take j).map lenS).sum : Nat) : Int)
    obtain ⟨z, hz⟩ : ∃ z, IntKind.i64.wrap ((1 + ((l.take j).map lenS).sum : Nat) : Int) = z := ⟨_, rfl⟩
    rw [hz] at hz1 hz2 ⊢
    have HZ := Lib.hid hz
    have hsw := hb.size
    clear hj hb hz
    by_cases hlt : j < n
    · obtain ⟨f, hf⟩ : ∃ f, l[j]? = some f := ⟨_, List.getElem?_eq_getElem (by have := H.out.2.1; omega)⟩
      obtain ⟨okf, ad, B1, d1, hA, _, _, _, hblk, x0, x1, x2, x3, x4⟩ := FctsIn.at_ H.out.1 hf
      subst hA
      have hvl := H.out.2.2 f (List.mem_of_getElem? hf)
      have hjn : (j : Int) < (n : Int) := by omega
      obtain ⟨L, hL⟩ : ∃ L, f.val.length = L := ⟨_, rfl⟩
      rw [hL] at hvl
      have hstep : ((l.take (j + 1)).map lenS).sum = ((l.take j).map lenS).sum + lenS f := by
        rw [List.take_add_one, hf, List.map_append, List.sum_append]
        simp
      have HC1 := Lib.hid (fun w' => leafLen_any w' f okf B1 L d1 hL hvl)
      have HC2 := Lib.hid (fun w' => dLeafLen_any w' f okf B1 L d1 hL hvl)
      have HC3 := Lib.hid (fun w' => innLen_any w' f.key okf)
      have HC4 := Lib.hid (fun w' => dInnLen_any w' f.key okf)
      rw [hL] at x4
      have HS := Lib.hid (And.intro hstep (And.intro hblk (And.intro x0 (And.intro x1 (And.intro x2 (And.intro x3 x4))))))
      obtain ⟨c1, hc1⟩ : ∃ c, lenS f = c := ⟨_, rfl⟩
      obtain ⟨c2, hc2⟩ : ∃ c, innS f.key = c := ⟨_, rfl⟩
      rw [hc1] at HC1 HC2
      rw [hc2] at HC3 HC4
      have HCC := Lib.hid hc1
      clear hstep x0 x1 x2 x3 x4 hf hL okf hc1 hc2
      obtain ⟨⟨fi, fa, fs, fc⟩, fv⟩ := f
      unfold Ky.val at HC3 HC4
      dsimp only at HC1 HC2 HC3 HC4 HS
      have up : ∀ (w1 : World), Below w.heap.size w w1 → ∀ (a : Addr) (u : Value), a.block < w.heap.size → w.cell? a = some u → w1.cell? a = some u := fun w1 hb a u h1 h2 => (World.cell?_of_block (hb.block _ h1)).trans h2
      have HU := Lib.hid up
      clear up
      go_wp2_with fail
      have m0 : ∀ p : InC (fun w' => Below w.heap.size w w'), p.w.cell? (ad.add (j * 5)) = some (.int .i64 fi) := fun p => HU.out _ p.h _ _ hblk HS.out.2.2.1
      have m1 : ∀ p : InC (fun w' => Below w.heap.size w w'), p.w.cell? ⟨(ad.add (j * 5)).block, (ad.add (j * 5)).off + 1, none⟩ = some (.int .u8 (fa.toNat : Int)) := fun p => HU.out _ p.h _ _ hblk HS.out.2.2.2.1
      have m2 : ∀ p : InC (fun w' => Below w.heap.size w w'), p.w.cell? ⟨(ad.add (j * 5)).block, (ad.add (j * 5)).off + 2, none⟩ = some (.string fs) := fun p => HU.out _ p.h _ _ hblk HS.out.2.2.2.2.1
      have m3 : ∀ p : InC (fun w' => Below w.heap.size w w'), p.w.cell? ⟨(ad.add (j * 5)).block, (ad.add (j * 5)).off + 3, none⟩ = some (.int .i64 fc) := fun p => HU.out _ p.h _ _ hblk HS.out.2.2.2.2.2.1
      have m4 : ∀ p : InC (fun w' => Below w.heap.size w w'), p.w.cell? ⟨(ad.add (j * 5)).block, (ad.add (j * 5)).off + 4, none⟩ = some (.slice B1 L d1) := fun p => HU.out _ p.h _ _ hblk HS.out.2.2.2.2.2.2
      have hinh : Nonempty (InC (fun w' => Below w.heap.size w w')) := ⟨⟨w, Below.refl _ _⟩⟩
      refine wp_region_class (fun w' => Below w.heap.size w w') (by kernel_rfl) (by kernel_rfl) HX.out.2.drew ?_
      repeat (go_big_quiet_step (first | (go_at_call 15; rename_i p; exact class_call (HC1.out _) (fun _ hb => below_then p.h p.h.size hb)) | (go_at_call 16; rename_i p; exact class_call (HC2.out _) (fun _ hb => below_then p.h p.h.size hb)) | (go_at_call 17; rename_i p; exact class_call (HC3.out _) (fun _ hb => below_then p.h p.h.size hb)) | (go_at_call 18; rename_i p; exact class_call (HC4.out _) (fun _ hb => below_then p.h p.h.size hb))))
      refine wpQuiet_nil ?_
      rintro _ ⟨p4, rfl⟩
      clear hinh m0 m1 m2 m3 m4
      have hb6 := p4.h
      generalize p4.w = w6 at hb6 ⊢
      have y0 : w6.cell? (ad.add (j * 5)) = some (.int .i64 fi) := HU.out _ hb6 _ _ hblk HS.out.2.2.1
      have y1 : w6.cell? ⟨(ad.add (j * 5)).block, (ad.add (j * 5)).off + 1, none⟩ = some (.int .u8 (fa.toNat : Int)) := HU.out _ hb6 _ _ hblk HS.out.2.2.2.1
      have y2 : w6.cell? ⟨(ad.add (j * 5)).block, (ad.add (j * 5)).off + 2, none⟩ = some (.string fs) := HU.out _ hb6 _ _ hblk HS.out.2.2.2.2.1
      have y3 : w6.cell? ⟨(ad.add (j * 5)).block, (ad.add (j * 5)).off + 3, none⟩ = some (.int .i64 fc) := HU.out _ hb6 _ _ hblk HS.out.2.2.2.2.2.1
      have y4 : w6.cell? ⟨(ad.add (j * 5)).block, (ad.add (j * 5)).off + 4, none⟩ = some (.slice B1 L d1) := HU.out _ hb6 _ _ hblk HS.out.2.2.2.2.2.2
      have H6 := Lib.hid hb6
      clear hb6
      go_wp2_with fail
      refine (HC1.out _).mono ?_
      rintro e w7 ⟨rfl, hb7⟩
      have H7 := Lib.hid (below_then H6.out H6.out.size hb7)
      clear hb7 y0 y1 y2 y3 y4
      go_wp2_with fail
      go_roundg (n - (j + 1))
      case measure => have := HX.out.1; omega
      case rel =>
        refine ⟨j + 1, by have := HX.out.1; omega, by go_num, ?_, H7.out⟩
        rw [HS.out.1, HCC.out, ← HZ.out, ← IntWalk.i64_left, wrap_add]
        congr 2
        omega
    · obtain rfl : j = n := by have := HX.out.1; omega
      have hge : ¬ (j : Int) < (j : Int) := by omega
      have HZ' := Lib.hid (show IntKind.i64.wrap ((1 + (l.map lenS).sum : Nat) : Int) = z by rw [← HZ.out, List.take_of_length_le (by have := H.out.2.1; omega)])
      go_wp2_with fail
      refine (HP.out _ HX.out.2).mono ?_
      obtain ⟨rb, rc⟩ := r
      rintro e w1 ⟨v1, rfl, ho1, hb1⟩
      obtain ⟨A1, d1, rfl, hrv1, hl1, hm1, _⟩ := ho1.slice
      dsimp only at hrv1 hl1 hcode ⊢
      obtain ⟨m, hm⟩ : ∃ m, rb.length = m := ⟨_, rfl⟩
      rw [hm] at hl1 ⊢
      have H1 := Lib.hid (And.intro hrv1 (And.intro (below_then HX.out.2 HX.out.2.size hb1) hm))
      clear ho1 hrv1 hb1 hm
      by_cases hrc : rc = 0
      · subst hrc
        obtain ⟨k1, k2, k3, k4, k5⟩ := putLeaf_said HR.out
        have k6 := leafB_sum l k1.2.2.1
        have k7 : z = ((leafB l).length : Int) := by
          rw [← HZ'.out, ← k6]
          exact IntWalk.i64_in _ (by omega)
        have k2' := k2
        obtain ⟨q, hq⟩ : ∃ q, (leafB l).length = q := ⟨_, rfl⟩
        rw [hq] at k7 k5
        have HK := Lib.hid (And.intro k2 hq)
        subst k7
        clear k1 k2 k3 k4 k6 k2' hq
        go_wp2_with fail
        refine (dGet_n w1 A1 m d1 rb H1.out.2.2 H1.out.1 hl1 hm1).mono ?_
        rw [HK.out.1]
        rintro e w2 ⟨v2, rfl, ho2, hb2⟩
        obtain ⟨A2, d2, rfl, hrv2, hl2, hm2, _⟩ := ho2.slice
        dsimp only at hrv2 hl2 ⊢
        rw [HK.out.2]
        have H2 := Lib.hid (below_then H1.out.2.1 H1.out.2.1.size hb2)
        clear ho2 hrv2 hb2 hl2
        go_wp2_with fail
        refine (HL.out _).mono ?_
        rintro e w3 ⟨rfl, hb3⟩
        have H3 := Lib.hid (below_then H2.out H2.out.size hb3)
        clear hb3
        go_wp2_with fail
        go_ret
        exact ⟨rfl, H3.out⟩
      · have hne1 : ((rc : Int) != 0) = true := by simp; omega
        clear hrc
        go_wp2_with fail
        refine (HL.out _).mono ?_
        rintro e w3 ⟨rfl, hb3⟩
        have H3 := Lib.hid (below_then H1.out.2.1 H1.out.2.1.size hb3)
        clear hb3
        go_wp2_with fail
        go_ret
        exact ⟨rfl, H3.out⟩
end Go.Proofs.Ytegoeagmadhpgaa
