import Derived.Test.YtckpgbkabbddnaaMPages
import Derived.Test.YtckpgbkabbddnaaMDParts
import Derived.Test.YtckpgbkabbddnaaMDKey
import Derived.Test.YtckpgbkabbddnaaMSame
import Derived.Test.YtckpgbkabbddnaaClsM
set_option linter.unusedVariables false
set_option linter.unusedSimpArgs false
/- The walk of PackPages (layer 13). -/
namespace Go.Proofs.Ytckpgbkabbddnaa
open Go.RowKit

theorem same_eq (A B : Option Addr) (c d n : Nat) (xs : List UInt8) (hn : xs.length = n) (w : World) (ha : RV w A (bv xs)) (hb : RV w B (bv xs)) (lx : n ≤ maxLen) :
    Calls Try.prog 19 #[.slice A n c, .slice B n d] w fun e w' => e = .returned (.bool true) ∧ Drawn w w' := by
  subst hn
  have := same_any A B c d xs xs w ha hb lx lx
  rw [decide_eq_true rfl] at this
  exact this

set_option maxRecDepth 100000 in
set_option maxHeartbeats 4000000 in
theorem walkPackPages (w : World) (s : Int) (hs : (Lit.int .i64 s).wf = true) (A : Option Addr) (d : Nat) (l : List Fct) (h : FctsIn w A l.length l) (hv : ∀ f ∈ l, f.val.length ≤ 140737488351232) (hn : l.length * 64 ≤ 140737488351232) (f : Fct) (B : Option Addr) (dd : Nat) (okf : okKy f.key) (hfv : f.val.length ≤ 140737488351232) :
    Calls Try.prog 5 #[.int .i64 s, .slice A l.length d, .agg #[.int .i64 f.key.ino, .int .u8 (f.key.what.toNat : Int), .string f.key.name, .int .i64 f.key.chunk, .slice B f.val.length dd]] w fun e w' => e = .returned (.bool true) ∧ Below w.heap.size w w' := by
  clear hs
  obtain ⟨n, hN⟩ : ∃ n, l.length = n := ⟨_, rfl⟩
  rw [hN] at h hn ⊢
  obtain ⟨q, hq⟩ : ∃ q, f.val.length = q := ⟨_, rfl⟩
  rw [hq] at hfv ⊢
  have HC1 := fun w => cost_any w f okf B q dd hq hfv
  have HC2 := fun w => dCost_any w f okf B q dd hq hfv
  obtain ⟨c, hc⟩ : ∃ c, costS f = c := ⟨_, rfl⟩
  rw [hc] at HC1 HC2
  clear hc hq okf
  obtain ⟨⟨fi, fa, fs, fc⟩, fv⟩ := f
  dsimp only at HC1 HC2 ⊢
  have HC1 := Lib.hid HC1
  have HC2 := Lib.hid HC2
  have hP : ∀ w1, Below w.heap.size w w1 → FctsIn w1 A n l := fun w1 hb => ListIn.below fct_len (by decide) h hb
  have HPA := Lib.hid (fun w1 hb => pages_any w1 s A n d l (hP w1 hb) hv hn)
  have HPB := Lib.hid (fun w1 hb => dPages_any w1 s A n d l (hP w1 hb) hv hn)
  have HPC := Lib.hid (fun w1 hb => (show Calls Try.prog 16 #[.int .i64 s, .slice A n d] w1 fun e w' => e = .returned (.tuple #[.int .i64 ((manyS s l).1 : Int), .int .i64 ((manyS s l).2 : Int)]) ∧ Below w1.heap.size w1 w' from many_any w1 s A n d l (hP w1 hb) hv hn))
  have HPD := Lib.hid (fun w1 hb => dMany_any w1 s A n d l (hP w1 hb) hv hn)
  have hcode := cutsS_code s l
  have hpc : (pagesS s l).2 ≤ 3 ∧ (pagesS s l).1.length ≤ n := by
    unfold pagesS
    split
    · exact ⟨hcode, Nat.zero_le _⟩
    · rename_i h0
      have h0 := Classical.not_not.1 h0
      have := cutsS_len h0
      refine ⟨by simp, ?_⟩
      simp only [List.length_map]
      unfold partsS
      rw [partsC_len]
      omega
  clear h hv hP hcode
  generalize pagesS s l = r at *
  generalize manyS s l = m at *
  obtain ⟨pgs, e⟩ := r
  obtain ⟨m1, m2⟩ := m
  dsimp only at *
  obtain ⟨M, hM⟩ : ∃ M, pgs.length = M := ⟨_, rfl⟩
  rw [hM] at hpc
  obtain ⟨he3, hMn⟩ := hpc
  have HM := Lib.hid hM
  clear hM hN
  have H0 := Lib.hid (And.intro ((Below.refl w.heap.size w).alloc (Nat.le_refl _) (.cells #[.int .i64 fi, .int .u8 (fa.toNat : Int), .string fs, .int .i64 fc, .slice B q dd] 41)) (Blk.new w 41 #[.int .i64 fi, .int .u8 (fa.toNat : Int), .string fs, .int .i64 fc, .slice B q dd]))
  obtain ⟨W, hW⟩ : ∃ W, W = w := ⟨_, rfl⟩
  go_enter Try.func5, Try.ntmps5
  go_wp2_with fail
  generalize w.alloc (.cells #[.int .i64 fi, .int .u8 (fa.toNat : Int), .string fs, .int .i64 fc, .slice B q dd] 41) = w0 at *
  have BW : ∀ w', Below w0.heap.size w0 w' → Below w.heap.size w w' := fun w' hb => below_then H0.out.1 H0.out.1.size hb
  have BW := Lib.hid BW
  refine (HPA.out _ H0.out.1).mono ?_
  rintro e1 w1 ⟨v1, rfl, ho1, hb1⟩
  dsimp only at ho1 ⊢
  rw [HM.out] at ho1
  obtain ⟨A1, c1, rfl, hin1, hl1, hm1, _⟩ := OwnL.listIn pg_len ho1
  have H1 := Lib.hid (And.intro hin1 hb1)
  clear ho1 hin1 hb1
  go_wp2_with fail
  refine (HPB.out w1 (BW.out _ H1.out.2)).mono ?_
  rintro e2 w2 ⟨v2, rfl, ho2, hb2⟩
  dsimp only at ho2 ⊢
  rw [HM.out] at ho2
  obtain ⟨A2, c2, rfl, hin2, hl2, hm2, _⟩ := OwnL.listIn pg_len ho2
  have H2 := Lib.hid (And.intro (ListIn.below pg_len (by decide) H1.out.1 hb2) (And.intro hin2 (below_then H1.out.2 H1.out.2.size hb2)))
  clear ho2 hin2 hb2
  go_wp2_with fail
  refine (HPC.out w2 (BW.out _ H2.out.2.2)).mono ?_
  rintro e3 w3 ⟨rfl, hb3⟩
  have H3 := Lib.hid (And.intro (ListIn.below pg_len (by decide) H2.out.1 hb3) (And.intro (ListIn.below pg_len (by decide) H2.out.2.1 hb3) (below_then H2.out.2.2 H2.out.2.2.size hb3)))
  clear hb3 H2
  go_wp2_with fail
  refine (HPD.out w3 (BW.out _ H3.out.2.2)).mono ?_
  rintro e4 w4 ⟨rfl, hb4⟩
  have H4 := Lib.hid (And.intro (ListIn.below pg_len (by decide) H3.out.1 hb4) (And.intro (ListIn.below pg_len (by decide) H3.out.2.1 hb4) (below_then H3.out.2.2 H3.out.2.2.size hb4)))
  clear hb4 H3
  have t1 : ((M : Int) != (M : Int)) = false := by simp
  have t2 : ((e : Int) != (e : Int)) = false := by simp
  have t3 : ((m1 : Int) != (m1 : Int)) = false := by simp
  have t4 : ((m2 : Int) != (m2 : Int)) = false := by simp
  have t5 : ((c : Int) != (c : Int)) = false := by simp
  have hup : ∀ w', Below w4.heap.size w4 w' → ∀ i, w'.cell? ⟨w.heap.size, i, none⟩ = (#[.int .i64 fi, .int .u8 (fa.toNat : Int), .string fs, .int .i64 fc, .slice B q dd] : Array Value)[i]? := fun w' hb i => by
    have h1 := H0.out.2.below (below_then H4.out.2.2 H4.out.2.2.size hb) H0.out.2.lt
    exact h1.cell i
  have HUP := Lib.hid hup
  clear hup
  go_wp2_with fail
  have m0 : ∀ p : InC (fun w' => Below w4.heap.size w4 w'), p.w.cell? ⟨w.heap.size, 0, none⟩ = some (.int .i64 fi) := fun p => HUP.out _ p.h 0
  have m1 : ∀ p : InC (fun w' => Below w4.heap.size w4 w'), p.w.cell? ⟨w.heap.size, 1, none⟩ = some (.int .u8 (fa.toNat : Int)) := fun p => HUP.out _ p.h 1
  have m2 : ∀ p : InC (fun w' => Below w4.heap.size w4 w'), p.w.cell? ⟨w.heap.size, 2, none⟩ = some (.string fs) := fun p => HUP.out _ p.h 2
  have m3 : ∀ p : InC (fun w' => Below w4.heap.size w4 w'), p.w.cell? ⟨w.heap.size, 3, none⟩ = some (.int .i64 fc) := fun p => HUP.out _ p.h 3
  have m4 : ∀ p : InC (fun w' => Below w4.heap.size w4 w'), p.w.cell? ⟨w.heap.size, 4, none⟩ = some (.slice B q dd) := fun p => HUP.out _ p.h 4
  have hinh : Nonempty (InC (fun w' => Below w4.heap.size w4 w')) := ⟨⟨w4, Below.refl _ _⟩⟩
  refine wp_region_class (fun w' => Below w4.heap.size w4 w') (by kernel_rfl) (by kernel_rfl) (Below.refl _ _).drew ?_
  repeat (go_big_quiet_step (first | (go_at_call 14; rename_i p; exact class_call (HC1.out _) (fun _ hb => below_then p.h p.h.size hb)) | (go_at_call 18; rename_i p; exact class_call (HC2.out _) (fun _ hb => below_then p.h p.h.size hb))))
  refine wpQuiet_nil ?_
  rintro _ ⟨p4, rfl⟩
  clear hinh m0 m1 m2 m3 m4
  have hb5 := p4.h
  generalize p4.w = w5 at hb5 ⊢
  have H5 := Lib.hid (And.intro (ListIn.below pg_len (by decide) H4.out.1 hb5) (And.intro (ListIn.below pg_len (by decide) H4.out.2.1 hb5) (BW.out _ (below_then H4.out.2.2 H4.out.2.2.size hb5))))
  clear hb5 H4 HUP
  go_wp2_with fail
  go_loopg [15] M (fun k i wr => ∃ j : Nat, j + k = M ∧ i = .int .i64 j ∧ Below w5.heap.size w5 wr)
  case atStart => exact ⟨0, by omega, rfl, Below.refl _ _⟩
  case round =>
    obtain ⟨j, hj, rfl, hb⟩ := hrel
    have HX := Lib.hid (And.intro hj (And.intro hb (below_then H5.out.2.2 H5.out.2.2.size hb)))
    clear hj hb
    by_cases hlt : j < M
    · obtain ⟨pg, hp⟩ : ∃ pg, pgs[j]? = some pg := ⟨_, List.getElem?_eq_getElem (by have := HM.out; omega)⟩
      obtain ⟨ad1, B1, d1, hA1, hrv1, hy1, hz1, hblk1, hc1⟩ := PgsIn.at_ H5.out.1 hp
      obtain ⟨ad2, B2, d2, hA2, hrv2, hy2, hz2, hblk2, hc2⟩ := PgsIn.at_ H5.out.2.1 hp
      subst hA1 hA2
      have y1 : wr.cell? (ad1.add j) = some (.slice B1 pg.length d1) := (World.cell?_of_block (HX.out.2.1.block _ hblk1)).trans hc1
      have y2 : wr.cell? (ad2.add j) = some (.slice B2 pg.length d2) := (World.cell?_of_block (HX.out.2.1.block _ hblk2)).trans hc2
      obtain ⟨N, hN⟩ : ∃ N, pg.length = N := ⟨_, rfl⟩
      rw [hN] at y1 y2 hy2
      have HC := Lib.hid (fun w' (hd : Drawn wr w') => same_eq B1 B2 d1 d2 N pg hN w' ((hrv1.below HX.out.2.1).below (hd.below _)) ((hrv2.below HX.out.2.1).below (hd.below _)) (Nat.le_trans hy2 hz2))
      have hjM : (j : Int) < (M : Int) := by omega
      clear hrv1 hrv2 hblk1 hblk2 hc1 hc2 hp hN
      go_wp2_with fail
      go_quiet ((go_at_call 19; first | exact quiet_drawn (HC.out _ (Drawn.mk wr _)) | exact quiet_drawn2 (HC.out _ (Drawn.mk wr _))))
      have hbd := below_drewN HX.out.2.1 nq
      generalize wr.drewN nq = w3 at *
      have HD := Lib.hid hbd
      clear hbd
      go_wp2_with fail
      go_roundg (M - (j + 1))
      case measure => have := HX.out.1; omega
      case rel => exact ⟨j + 1, by have := HX.out.1; omega, by go_num, HD.out⟩
    · have hge : ¬ (j : Int) < (M : Int) := by omega
      go_wp2_with (go_at_call 9; refine (works13_any _).mono ?_; rintro e w5 ⟨rfl, hb5⟩; have H6 := Lib.hid (below_then HX.out.2.2 HX.out.2.2.size hb5); clear hb5)
      go_ret
      exact ⟨rfl, H6.out⟩
end Go.Proofs.Ytckpgbkabbddnaa
