import Derived.Test.YtlioclicopakbaaDShCM
import Derived.Test.YtlioclicopakbaaApartM
import Derived.Test.YtlioclicopakbaaShLvM
set_option linter.unusedVariables false
set_option linter.unusedSimpArgs false
/- Layer 16, the document's Leaves, Above: contracts. -/
namespace Go.Proofs.Ytlioclicopakbaa
open Go.RowKit

theorem itsL_lens (l : List Fct) : (itsL l).map (·.2) = l.map lenS := by unfold itsL; rw [List.map_map]; rfl
theorem itsA_lens (l : List Ky) : (itsA l).map (·.2) = l.map innS := by unfold itsA; rw [List.map_map]; rfl
theorem map_step {α β : Type} {l : List α} {j : Nat} {a : α} (f : α → β) (h : l[j]? = some a) : (l.take (j + 1)).map f = (l.take j).map f ++ [f a] := by
  rw [List.take_add_one, h, List.map_append]
  rfl

set_option maxRecDepth 100000 in
set_option maxHeartbeats 1000000 in
theorem dAbove_any (w : World) (s : Int) (A : Option Addr) (n d : Nat) (l : List Ky) (h : KeysIn w A n l) (hn : n * 40 ≤ 140737488351232) (hnd : n ≤ d) (hd : d ≤ maxLen) :
    Calls Try.prog 13 #[.int .i64 s, .slice A n d] w (IntsEnd w (aboveS s l)) := by
  have H := Lib.hid (And.intro h (And.intro h.1 hd))
  clear h hd
  unfold aboveS
  obtain ⟨ji, jz, hji, hjz, hj1, hj2, hj3⟩ := int_info'
  go_enter Try.func13, Try.ntmps13
  go_wp2_with fail
  go_loopg [6, 7] n (fun k v i wr => ∃ j : Nat, j + k = n ∧ i = .int .i64 j ∧ OwnI 3 wr w.heap.size v ((l.take j).map innS) ∧ Below w.heap.size w wr)
  case atStart => exact ⟨0, by omega, rfl, OwnI.nil _ _ _, Below.refl _ _⟩
  case round =>
    obtain ⟨j, hj, rfl, ho, hb⟩ := hrel
    have HX := Lib.hid (And.intro hj (And.intro ho hb))
    clear hj ho hb
    by_cases hlt : j < n
    · obtain ⟨k, hk⟩ : ∃ k, l[j]? = some k := ⟨_, List.getElem?_eq_getElem (by have := H.out.2.1; omega)⟩
      obtain ⟨okk, ad, hA, hblk, x0, x1, x2, x3⟩ := KeysIn.at_ H.out.1 hk
      subst hA
      have up : ∀ {p : Addr} {u : Value}, w.cell? p = some u → p.block < w.heap.size → wr.cell? p = some u := fun hu hp => (World.cell?_of_block (HX.out.2.2.block _ hp)).trans hu
      have p0 := up x0 hblk
      have p1 := up x1 hblk
      have p2 := up x2 hblk
      have p3 := up x3 hblk
      have hjn : (j : Int) < (n : Int) := by omega
      have hst := map_step innS hk
      have hlen : ((l.take j).map innS).length ≤ j := by rw [List.length_map]; exact List.length_take_le _ _
      have ho := HX.out.2.1
      generalize (l.take j).map innS = G at hst hlen ho
      have HV := Lib.hid (And.intro hst ho)
      have HI := Lib.hid (fun w => dInnLen_any w k okk)
      clear x0 x1 x2 x3 up hk okk hst ho
      generalize innS k = ik at *
      obtain ⟨fi, fa, fs, fc⟩ := k
      unfold Ky.val at HI
      dsimp only at p0 p1 p2 p3 HI
      go_wp2_with fail
      refine (HI.out _).mono ?_
      rintro e w1 ⟨rfl, hb1⟩
      have H1 := Lib.hid (And.intro (HV.out.2.below hb1) (below_then HX.out.2.2 HX.out.2.2.size hb1))
      clear hb1 p0 p1 p2 p3
      go_wp2_with (at_builtin; refine wpList_appI w1 rfl _ _ 23 rfl w.heap.size 3 ji jz Try.underlying23 hji hjz hj1 hj2 hj3 u6 G rfl H1.out.1 ik _ rfl rfl ?_ ?_ ?_)
      · omega
      · exact H1.out.2.size
      intro v2 w2 ho2 hg2
      rw [← HV.out.1] at ho2
      have H2 := Lib.hid (And.intro ho2 (H1.out.2.grown hg2 H1.out.2.size (fun k e => (H1.out.1.blk e).1)))
      clear ho2 hg2
      go_wp2_with fail
      go_roundg (n - (j + 1))
      case measure => have := HX.out.1; omega
      case rel => exact ⟨j + 1, by have := HX.out.1; omega, by go_num, H2.out.1, H2.out.2⟩
    · obtain rfl : j = n := by have := HX.out.1; omega
      have hge : ¬ (j : Int) < (j : Int) := by omega
      have ho := HX.out.2.1
      rw [List.take_of_length_le (by have := H.out.2.1; omega)] at ho
      obtain ⟨A6, c6, rfl, hrv, hl6, hm6⟩ := OwnI.slice ho
      rw [List.length_map, H.out.2.1] at hl6 ⊢
      have HC := Lib.hid (dCut_any wr s A6 c6 A j d (itsA l) 2 (by rw [itsA_keys]; exact ListIn.below ky_len (by decide) H.out.1 HX.out.2.2) (by rw [itsA_lens]; exact hrv) hn hl6 hm6 hnd H.out.2.2)
      clear ho hrv
      go_wp2_with fail
      refine HC.out.mono ?_
      rintro e w2 ⟨v2, rfl, ho2, hb2⟩
      have H2 := Lib.hid (And.intro (ho2.lower HX.out.2.2.size) (below_then HX.out.2.2 HX.out.2.2.size hb2))
      clear ho2 hb2
      go_wp2_with fail
      go_ret2
      exact ⟨_, rfl, H2.out.1, H2.out.2⟩

set_option maxRecDepth 100000 in
set_option maxHeartbeats 1000000 in
theorem dLeaves_any (w : World) (s : Int) (A : Option Addr) (n d : Nat) (l : List Fct) (h : FctsIn w A n l) (hv : ∀ f ∈ l, f.val.length ≤ 140737488351232) (hn : n * 64 ≤ 140737488351232) :
    Calls Try.prog 9 #[.int .i64 s, .slice A n d] w (IntsEnd w (leavesS s l)) := by
  have H := Lib.hid (And.intro h (And.intro h.1 hv))
  clear h hv
  unfold leavesS
  obtain ⟨ji, jz, hji, hjz, hj1, hj2, hj3⟩ := int_info'
  obtain ⟨ii, iz, hii, hiz, hi1, hi2, hi3⟩ := ky_info'
  go_enter Try.func9, Try.ntmps9
  go_wp2_with fail
  go_loopg [6, 7, 8] n (fun k kv lv i wr => ∃ j : Nat, j + k = n ∧ i = .int .i64 j ∧ OwnY wr w.heap.size kv j ((l.take j).map (·.key)) ∧ OwnI 3 wr w.heap.size lv ((l.take j).map lenS) ∧ Apart kv lv ∧ Below w.heap.size w wr)
  case atStart => exact ⟨0, by omega, rfl, OwnL.nil _ _ _, OwnI.nil _ _ _, Apart.nil _, Below.refl _ _⟩
  case round =>
    obtain ⟨j, hj, rfl, hk, ho, hap, hb⟩ := hrel
    have HX := Lib.hid (And.intro hj (And.intro hk (And.intro ho (And.intro hap hb))))
    clear hj hk ho hap hb
    by_cases hlt : j < n
    · obtain ⟨f, hf⟩ : ∃ f, l[j]? = some f := ⟨_, List.getElem?_eq_getElem (by have := H.out.2.1; omega)⟩
      obtain ⟨okf, ad, B1, d1, hA, hr1, l1, l2, hblk, x0, x1, x2, x3, x4⟩ := FctsIn.at_ H.out.1 hf
      subst hA
      have up : ∀ {p : Addr} {u : Value}, w.cell? p = some u → p.block < w.heap.size → wr.cell? p = some u := fun hu hp => (World.cell?_of_block (HX.out.2.2.2.2.block _ hp)).trans hu
      have p0 := up x0 hblk
      have p1 := up x1 hblk
      have p2 := up x2 hblk
      have p3 := up x3 hblk
      have HXX := Lib.hid (And.intro x0 (And.intro x1 (And.intro x2 (And.intro x3 x4))))
      have hjn : (j : Int) < (n : Int) := by omega
      have hst := map_step lenS hf
      have hsk := map_step (·.key) hf
      have hlen : ((l.take j).map lenS).length ≤ j := by rw [List.length_map]; exact List.length_take_le _ _
      have ho := HX.out.2.2.1
      have hk := HX.out.2.1
      generalize (l.take j).map lenS = G at hst hlen ho
      generalize (l.take j).map (·.key) = K at hsk hk
      have HV := Lib.hid (And.intro hst (And.intro hsk (And.intro ho (And.intro hk okf))))
      have HI := Lib.hid (fun w => dLeafLen_any w f okf B1 f.val.length d1 rfl (H.out.2.2 f (List.mem_of_getElem? hf)))
      clear x0 x1 x2 x3 x4 up hf okf hst hsk ho hk hr1
      generalize lenS f = ik at *
      obtain ⟨⟨fi, fa, fs, fc⟩, fv⟩ := f
      dsimp only at p0 p1 p2 p3 HI HV HXX l1
      go_wp2_with (at_builtin; refine wpList_appL1 (cell := kyCells) (val := kyVal) (ok := okKy) (sz := 4) wr rfl _ _ 28 rfl w.heap.size 33 ii iz 40 Try.underlying28 hii hiz hi1 hi2 hi3 (by decide) ky_len ky_one u6 j K rfl HV.out.2.2.2.1 (⟨fi, fa, fs, fc⟩ : Ky) (.slice none 0 0) rfl HV.out.2.2.2.2 (noVal _ _) _ rfl ?_ ?_ ?_ ?_)
      · unfold maxLen; omega
      · omega
      · exact HX.out.2.2.2.2.size
      intro v2 w2 ho2 hg2 hv2
      rw [← HV.out.2.1] at ho2
      have hap2 := HX.out.2.2.2.1.new hv2 (fun k e => (HV.out.2.2.1.blk e).2)
      have hI2 := HV.out.2.2.1.kept hg2 HX.out.2.2.2.1
      have hb2 := HX.out.2.2.2.2.grown hg2 HX.out.2.2.2.2.size (fun k e => (OwnL.blk HV.out.2.2.2.1 e).1)
      have up2 : ∀ {p : Addr} {u : Value}, w.cell? p = some u → p.block < w.heap.size → w2.cell? p = some u := fun hu hp => (World.cell?_of_block (hb2.block _ hp)).trans hu
      have H2 := Lib.hid (And.intro ho2 (And.intro hI2 (And.intro hap2 hb2)))
      clear ho2 hg2 hv2 hap2 hI2 hb2 p0 p1 p2 p3
      have p0 := up2 HXX.out.1 hblk
      have p1 := up2 HXX.out.2.1 hblk
      have p2 := up2 HXX.out.2.2.1 hblk
      have p3 := up2 HXX.out.2.2.2.1 hblk
      have p4 := up2 HXX.out.2.2.2.2 hblk
      clear up2
      go_wp2_with fail
      refine (HI.out _).mono ?_
      rintro e w3 ⟨rfl, hb3⟩
      have H3 := Lib.hid (And.intro (OwnL.below H2.out.1 hb3) (And.intro (H2.out.2.1.below hb3) (below_then H2.out.2.2.2 H2.out.2.2.2.size hb3)))
      clear hb3 p0 p1 p2 p3 p4
      go_wp2_with (at_builtin; refine wpList_appIV w3 rfl _ _ 23 rfl w.heap.size 3 ji jz Try.underlying23 hji hjz hj1 hj2 hj3 u7 G rfl H3.out.2.1 ik _ rfl rfl ?_ ?_ ?_)
      · omega
      · exact H3.out.2.2.size
      intro v4 w4 ho4 hg4 hv4
      rw [← HV.out.1] at ho4
      have hY4 := OwnY.kept H3.out.1 hg4 (H2.out.2.2.1.symm)
      have hap4 := (H2.out.2.2.1.symm.new hv4 (fun k e => (OwnL.blk H3.out.1 e).2)).symm
      have H4 := Lib.hid (And.intro hY4 (And.intro ho4 (And.intro hap4 (H3.out.2.2.grown hg4 H3.out.2.2.size (fun k e => (H3.out.2.1.blk e).1)))))
      clear ho4 hg4 hv4 hY4 hap4
      go_wp2_with fail
      go_roundg (n - (j + 1))
      case measure => have := HX.out.1; omega
      case rel => exact ⟨j + 1, by have := HX.out.1; omega, by go_num, H4.out.1, H4.out.2.1, H4.out.2.2.1, H4.out.2.2.2⟩
    · obtain rfl : j = n := by have := HX.out.1; omega
      have hge : ¬ (j : Int) < (j : Int) := by omega
      have ho := HX.out.2.2.1
      have hk := HX.out.2.1
      rw [List.take_of_length_le (by have := H.out.2.1; omega)] at ho hk
      obtain ⟨A7, c7, rfl, hrv, hl7, hm7⟩ := OwnI.slice ho
      obtain ⟨A6, c6, rfl, hin, hl6, hm6, _⟩ := OwnL.listIn ky_len hk
      rw [List.length_map, H.out.2.1] at hl7 ⊢
      have HC := Lib.hid (dCut_any wr s A7 c7 A6 j c6 (itsL l) 1 (by rw [itsL_keys]; exact hin) (by rw [itsL_lens]; exact hrv) (by omega) hl7 hm7 hl6 hm6)
      clear ho hrv hk hin
      go_wp2_with fail
      refine HC.out.mono ?_
      rintro e w2 ⟨v2, rfl, ho2, hb2⟩
      have H2 := Lib.hid (And.intro (ho2.lower HX.out.2.2.2.2.size) (below_then HX.out.2.2.2.2 HX.out.2.2.2.2.size hb2))
      clear ho2 hb2
      go_wp2_with fail
      go_ret2
      exact ⟨_, rfl, H2.out.1, H2.out.2⟩
end Go.Proofs.Ytlioclicopakbaa
