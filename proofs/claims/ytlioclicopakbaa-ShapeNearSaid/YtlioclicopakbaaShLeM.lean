import Derived.Test.YtlioclicopakbaaShFM
set_option linter.unusedVariables false
set_option linter.unusedSimpArgs false
/- Layer 16: contract of Levels. -/
namespace Go.Proofs.Ytlioclicopakbaa
open Go.RowKit

def lvGo (s : Int) : Nat → List Ky → List Nat
  | 0, _ => []
  | f + 1, ks => if ks.length ≤ 1 then [] else (firstsS ks (aboveS s ks).1).length :: lvGo s f (firstsS ks (aboveS s ks).1)
def lv0 (s : Int) (l : List Fct) : List Ky := firstsS (l.map (·.key)) (leavesS s l).1
def levelsS (s : Int) (l : List Fct) : List Nat × Nat :=
  if (leavesS s l).2 ≠ 0 ∨ (leavesS s l).1.length = 0 then ([], (leavesS s l).2)
  else ((lv0 s l).length :: lvGo s (lv0 s l).length (lv0 s l), 0)
/-- The nodes above keys of which there are two at least are fewer. -/
theorem above_less {s : Int} {ks : List Ky} (hs : 128 ≤ s ∧ s ≤ 256) (hg : goodKs ks) : (firstsS ks (aboveS s ks).1).length = (aboveS s ks).1.length ∧ 2 * (aboveS s ks).1.length ≤ ks.length + 1 ∧ goodKs (firstsS ks (aboveS s ks).1) ∧ (ks ≠ [] → 1 ≤ (aboveS s ks).1.length) := by
  obtain ⟨h1, h2, h3, h4⟩ := aboveS_ok hs hg
  refine ⟨firstsS_len ks _ h2 h3, ?_, goodKs_sub hg (firstsS_sub ks _ h3), fun hne => ?_⟩
  · have := two_sum _ h4 h3
    omega
  · cases hl : (aboveS s ks).1 with
    | nil =>
      rw [hl] at h2
      simp at h2
      exact absurd (List.eq_nil_of_length_eq_zero (by omega)) hne
    | cons a r => simp
theorem ownI_lit (w : World) (e : TypeId) (k : Nat) : OwnI e (w.alloc (.cells #[.int .i64 (k : Int)] e)) w.heap.size (.slice (some ⟨w.heap.size, 0, none⟩) 1 1) [k] :=
  ⟨rfl, .inr ⟨w.heap.size, 1, #[.int .i64 (k : Int)], rfl, Nat.le_refl _, heap_alloc_new w _, Nat.le_refl _, by decide, rfl, rfl⟩⟩
theorem lvGo_le {s : Int} {f : Nat} {ks : List Ky} (h : ks.length ≤ 1) : lvGo s f ks = [] := by
  cases f with
  | zero => rfl
  | succ f => rw [lvGo, if_pos h]
theorem lvGo_gt {s : Int} {f : Nat} {ks : List Ky} (h : 1 < ks.length) : lvGo s (f + 1) ks = (firstsS ks (aboveS s ks).1).length :: lvGo s f (firstsS ks (aboveS s ks).1) := by
  rw [lvGo, if_neg (by omega)]

set_option maxRecDepth 100000 in
set_option maxHeartbeats 2000000 in
theorem levels_any (w : World) (s : Int) (A : Option Addr) (n d : Nat) (l : List Fct) (h : FctsIn w A n l) (hv : ∀ f ∈ l, f.val.length ≤ 140737488351232) (hn : n * 64 ≤ 140737488351232) :
    Calls Try.prog 17 #[.int .i64 s, .slice A n d] w (IntsEnd w (levelsS s l)) := by
  have HL := Lib.hid (leaves_any w s A n d l h hv hn)
  have H := Lib.hid (And.intro h h.1)
  have hcode : (leavesS s l).2 ≤ 3 := shCut_code s (itsL l) 1
  by_cases h0 : (leavesS s l).2 ≠ 0 ∨ (leavesS s l).1.length = 0
  · have hr : levelsS s l = ([], (leavesS s l).2) := if_pos h0
    rw [hr]
    clear hr h hv H
    generalize leavesS s l = r at *
    obtain ⟨cs, ce⟩ := r
    dsimp only at HL h0 hcode ⊢
    obtain ⟨m, hm⟩ : ∃ m, cs.length = m := ⟨_, rfl⟩
    rw [hm] at h0
    have HM := Lib.hid hm
    clear hm
    by_cases hc : ce = 0
    · subst hc
      obtain rfl : m = 0 := by omega
      clear h0
      go_enter Try.func17, Try.ntmps17
      go_wp2_with (go_at_call 8; refine HL.out.mono ?_; rintro e w1 ⟨v1, rfl, ho1, hb1⟩; obtain ⟨A1, c1, rfl, hrv1, _, _⟩ := OwnI.slice ho1; dsimp only; rw [HM.out]; have H1 := Lib.hid hb1; clear hb1 ho1 hrv1)
      go_ret2
      exact ⟨_, rfl, OwnI.nil _ _ _, H1.out⟩
    · have t1 : ((ce : Int) != 0) = true := by simp; omega
      clear h0
      go_enter Try.func17, Try.ntmps17
      go_wp2_with (go_at_call 8; refine HL.out.mono ?_; rintro e w1 ⟨v1, rfl, ho1, hb1⟩; obtain ⟨A1, c1, rfl, hrv1, _, _⟩ := OwnI.slice ho1; dsimp only; rw [HM.out]; have H1 := Lib.hid hb1; clear hb1 ho1 hrv1)
      go_ret2
      exact ⟨_, rfl, OwnI.nil _ _ _, H1.out⟩
  · have hr : levelsS s l = ((lv0 s l).length :: lvGo s (lv0 s l).length (lv0 s l), 0) := if_neg h0
    have hc0 : (leavesS s l).2 = 0 := by omega
    obtain ⟨hs, hg, hsum, hpos⟩ := leavesS_ok hc0
    rw [hr]
    unfold lv0
    clear hr
    have hle := H.out.2
    generalize leavesS s l = r at *
    obtain ⟨cs, ce⟩ := r
    dsimp only at HL h0 hcode hc0 hsum hpos ⊢
    subst hc0
    have hf1 := firstsS_len (l.map (·.key)) cs (by rw [List.length_map]; exact hsum) hpos
    have hf2 := firstsS_sub (l.map (·.key)) cs hpos
    have hf3 := goodKs_sub hg hf2
    have hf4 := hf2.length_le
    rw [List.length_map] at hf4
    obtain ⟨ks0, hk0⟩ : ∃ ks0, firstsS (l.map (·.key)) cs = ks0 := ⟨_, rfl⟩
    rw [hk0] at hf1 hf3 hf4 ⊢
    obtain ⟨m, hm⟩ : ∃ m, cs.length = m := ⟨_, rfl⟩
    obtain ⟨X, hX⟩ : ∃ X, ks0.length :: lvGo s ks0.length ks0 = X := ⟨_, rfl⟩
    rw [hX]
    have hm1 : 1 ≤ m := by omega
    have hmn : m ≤ n := by omega
    have HM := Lib.hid (show cs.length = m ∧ ks0.length = m ∧ firstsS (l.map (·.key)) cs = ks0 ∧ goodKs ks0 ∧ cs.sum = n ∧ (∀ c ∈ cs, 1 ≤ c) ∧ ks0.length :: lvGo s ks0.length ks0 = X from ⟨hm, by omega, hk0, hf3, by omega, hpos, hX⟩)
    clear hm hk0 hf1 hf2 hf3 hf4 hX hsum hpos h0 hle hg h hv
    obtain ⟨ii, iz, hii, hiz, hi1, hi2, hi3⟩ := ky_info'
    obtain ⟨ji, jz, hji, hjz, hj1, hj2, hj3⟩ := int_info'
    have tm : ((m : Int) == 0) = false := beq_eq_false_iff_ne.2 (by omega)
    go_enter Try.func17, Try.ntmps17
    go_wp2_with (go_at_call 8; refine HL.out.mono ?_; rintro e w1 ⟨v1, rfl, ho1, hb1⟩; obtain ⟨A1, c1, rfl, hrv1, _, _⟩ := OwnI.slice ho1; dsimp only; rw [HM.out.1]; have H1 := Lib.hid (And.intro hb1 hrv1); clear hb1 ho1 hrv1)
    go_loopg [8, 28] n (fun k v i wr => ∃ j : Nat, j + k = n ∧ i = .int .i64 j ∧ OwnY wr w1.heap.size v j ((l.take j).map (·.key)) ∧ Below w1.heap.size w1 wr)
    case atStart => exact ⟨0, by omega, rfl, OwnL.nil _ _ _, Below.refl _ _⟩
    case round =>
      obtain ⟨j, hj, rfl, ho, hb⟩ := hrel
      have HX := Lib.hid (And.intro hj (And.intro ho (And.intro hb (below_then H1.out.1 H1.out.1.size hb))))
      clear hj ho hb
      by_cases hlt : j < n
      · obtain ⟨f, hf⟩ : ∃ f, l[j]? = some f := ⟨_, List.getElem?_eq_getElem (by have := H.out.2; omega)⟩
        obtain ⟨okf, ad, B1, d1, hA, hr1, l1, l2, hblk, x0, x1, x2, x3, x4⟩ := FctsIn.at_ H.out.1 hf
        subst hA
        have up : ∀ {p : Addr} {u : Value}, w.cell? p = some u → p.block < w.heap.size → wr.cell? p = some u := fun hu hp => (World.cell?_of_block (HX.out.2.2.2.block _ hp)).trans hu
        have p0 := up x0 hblk
        have p1 := up x1 hblk
        have p2 := up x2 hblk
        have p3 := up x3 hblk
        have p4 := up x4 hblk
        have hjn : (j : Int) < (n : Int) := by omega
        have htk : (l.take (j + 1)).map (·.key) = (l.take j).map (·.key) ++ [f.key] := by
          rw [List.take_add_one, hf, List.map_append]
          rfl
        have hown := HX.out.2.1
        generalize (l.take j).map (·.key) = G at hown htk
        have HV := Lib.hid (And.intro okf htk)
        clear x0 x1 x2 x3 x4 up hf okf hr1 htk
        obtain ⟨⟨fi, fa, fs, fc⟩, fv⟩ := f
        dsimp only at p0 p1 p2 p3 p4 HV l1
        obtain ⟨W, hW⟩ : ∃ W, wr.alloc (.cells #[.int .i64 fi, .int .u8 (fa.toNat : Int), .string fs, .int .i64 fc, .slice B1 fv.length d1] 41) = W := ⟨_, rfl⟩
        have hbW : Below wr.heap.size wr W := by rw [← hW]; exact (Below.refl _ _).alloc (Nat.le_refl _) _
        have hsW : W.heap.size = wr.heap.size + 1 := by rw [← hW]; exact alloc_sz _ _
        have HW := Lib.hid (And.intro (hown.below hbW) (And.intro (below_then HX.out.2.2.1 HX.out.2.2.1.size hbW) hsW))
        clear hbW hsW hown
        subst hW
        go_wp2_with (at_builtin; refine wpList_appL1H (cell := kyCells) (val := kyVal) (ok := okKy) (sz := 4) _ rfl _ _ 28 rfl w1.heap.size 33 ii iz 40 Try.underlying28 hii hiz hi1 hi2 hi3 (by decide) ky_len ky_one u8 j G rfl HW.out.1 (⟨fi, fa, fs, fc⟩ : Ky) (.slice none 0 0) _ HW.out.2.2 rfl HV.out.1 (noVal _ _) _ rfl ?_ ?_ ?_ ?_)
        · unfold maxLen; omega
        · omega
        · have := HW.out.2.1.size; exact this
        intro v2 w2 ho2 hg2 hv2
        rw [← HV.out.2] at ho2
        have hrow : ∀ k, u8.ownBlock = some k → w1.heap.size ≤ k := fun k e => (OwnL.blk HW.out.1 e).1
        have H2 := Lib.hid (And.intro ho2 (HW.out.2.1.grown hg2 HW.out.2.1.size hrow))
        clear ho2 hg2 hv2 hrow
        go_wp2_with fail
        go_roundg (n - (j + 1))
        case measure => have := HX.out.1; omega
        case rel => exact ⟨j + 1, by have := HX.out.1; omega, by go_num, H2.out.1, H2.out.2⟩
      · obtain rfl : j = n := by have := HX.out.1; omega
        have hge : ¬ (j : Int) < (j : Int) := by omega
        have ho := HX.out.2.1
        rw [List.take_of_length_le (by have := H.out.2; omega)] at ho
        obtain ⟨A6, c6, rfl, hin, hl6, hm6, _⟩ := OwnL.listIn ky_len ho
        have HK := Lib.hid hin
        clear ho hin
        go_wp2_with fail
        refine (firsts_any wr A6 j c6 _ HK.out hl6 hm6 (by omega) A1 m c1 cs (H1.out.2.below HX.out.2.2.1) HM.out.1 HM.out.2.2.2.2.1 HM.out.2.2.2.2.2.1).mono ?_
        rintro e w2 ⟨v2, rfl, ho2, hb2⟩
        rw [HM.out.2.2.1, HM.out.2.1] at ho2
        have hb2' := below_then HX.out.2.2.2 HX.out.2.2.2.size hb2
        obtain ⟨A7, c7, rfl, hin7, hl7, hm7, _⟩ := OwnL.listIn ky_len ho2
        have H2 := Lib.hid (And.intro hin7 hb2')
        clear ho2 hb2 hb2' hin7
        go_wp2_with fail
        have hlit := ownI_lit w2 3 m
        have hbl : Below w2.heap.size w2 (w2.alloc (.cells #[.int .i64 (m : Int)] 3)) := (Below.refl _ _).alloc (Nat.le_refl _) _
        have H3 := Lib.hid (show OwnI 3 (w2.alloc (.cells #[.int .i64 (m : Int)] 3)) w.heap.size (.slice (some ⟨w2.heap.size, 0, none⟩) 1 1) [m] ∧ KeysIn (w2.alloc (.cells #[.int .i64 (m : Int)] 3)) A7 m ks0 ∧ Below w.heap.size w (w2.alloc (.cells #[.int .i64 (m : Int)] 3)) from
          ⟨hlit.lower H2.out.2.size, ListIn.below ky_len (by decide) H2.out.1 hbl, below_then H2.out.2 H2.out.2.size hbl⟩)
        clear hlit hbl
        generalize w2.alloc (.cells #[.int .i64 (m : Int)] 3) = w3 at *
        go_loopg [8, 11] m (fun k kv lv wr => ∃ (ks : List Ky) (xs : List Nat) (A' : Option Addr) (q c' : Nat), kv = .slice A' q c' ∧ q ≤ c' ∧ c' ≤ maxLen ∧ q ≤ k ∧ q ≤ j ∧ 1 ≤ q ∧ xs.length + k = m + 1 ∧ goodKs ks ∧ KeysIn wr A' q ks ∧ OwnI 3 wr w.heap.size lv xs ∧ Below w.heap.size w wr ∧ xs ++ lvGo s k ks = X)
        case atStart => exact ⟨ks0, [m], A7, m, c7, rfl, hl7, hm7, Nat.le_refl _, by omega, hm1, by simp; omega, HM.out.2.2.2.1, H3.out.2.1, H3.out.1, H3.out.2.2, by rw [← HM.out.2.2.2.2.2.2, HM.out.2.1]; rfl⟩
        case round =>
          obtain ⟨ks, xs, A', q, c', rfl, hl9, hm9, hqk, hqj, hq1, hxk, hgk, hin, hoi, hbb, heq⟩ := hrel
          have hxl : xs.length ≤ m + 1 := by omega
          have HY := Lib.hid (show ks.length = q ∧ goodKs ks ∧ KeysIn wr A' q ks ∧ OwnI 3 wr w.heap.size u11 xs ∧ Below w.heap.size w wr ∧ xs ++ lvGo s gk ks = X ∧ xs.length + gk = m + 1 from ⟨hin.1, hgk, hin, hoi, hbb, heq, hxk⟩)
          clear hgk hoi hbb heq hin hxk
          by_cases hq2 : 1 < q
          · have hqI : (1 : Int) < (q : Int) := by omega
            obtain ⟨z, hz⟩ : ∃ z, gk = z + 1 := ⟨gk - 1, by omega⟩
            subst hz
            have HA := Lib.hid (fun w h => above_any w s A' q c' ks h (by omega))
            obtain ⟨p1, p2, p3, p4⟩ := aboveS_ok hs HY.out.2.1
            obtain ⟨r1, r2, r3, r4⟩ := above_less hs HY.out.2.1
            have heq := HY.out.2.2.2.2.2.1
            rw [lvGo_gt (by have := HY.out.1; omega)] at heq
            have r4' := r4 (fun h => by have := HY.out.1; rw [h] at this; simp at this; omega)
            rw [HY.out.1] at r2
            generalize hR : aboveS s ks = R at *
            obtain ⟨gs, ae⟩ := R
            dsimp only at p1 p2 p3 p4 r1 r2 r3 r4' heq
            subst p1
            obtain ⟨y, hy⟩ : ∃ y, gs.length = y := ⟨_, rfl⟩
            rw [hy] at r1 r2 r4'
            have HR := Lib.hid (And.intro hR (And.intro p2 (And.intro p3 (And.intro r1 (And.intro r3 (And.intro heq hy))))))
            clear hR p2 p3 p4 r1 r3 r4 heq hy
            go_wp2_with fail
            refine (HA.out wr HY.out.2.2.1).mono ?_
            rintro e w4 ⟨v4, rfl, ho4, hb4⟩
            obtain ⟨A4, c4, rfl, hrv4, _, _⟩ := OwnI.slice ho4
            dsimp only at hrv4 ⊢
            rw [HR.out.2.2.2.2.2.2]
            have H4 := Lib.hid (And.intro hrv4 (And.intro (below_then HY.out.2.2.2.2.1 HY.out.2.2.2.2.1.size hb4) hb4))
            clear ho4 hrv4 hb4
            go_wp2_with fail
            refine (firsts_any w4 A' q c' ks (ListIn.below ky_len (by decide) HY.out.2.2.1 H4.out.2.2) hl9 hm9 (by omega) A4 y c4 gs H4.out.1 HR.out.2.2.2.2.2.2 (by rw [HR.out.2.1]; exact HY.out.1) HR.out.2.2.1).mono ?_
            rintro e w5 ⟨v5, rfl, ho5, hb5⟩
            rw [HR.out.2.2.2.1] at ho5
            obtain ⟨A5, c5, rfl, hin5, hl5, hm5, hA5⟩ := OwnL.listIn ky_len ho5
            have H5 := Lib.hid (And.intro hin5 (And.intro (below_then H4.out.2.1 H4.out.2.1.size hb5) (And.intro ((HY.out.2.2.2.1.below H4.out.2.2).below hb5) (fun ad e => (hA5 ad e).2))))
            have hrow := fun k (e : u11.ownBlock = some k) => (HY.out.2.2.2.1.blk e).2
            have hs4 := H4.out.2.2.size
            have hfar : ∀ ad, A5 = some ad → some ad.block ≠ u11.ownBlock := fun ad e he => by
              have := (hA5 ad e).2
              have := hrow _ he.symm
              omega
            have HF5 := Lib.hid hfar
            clear hA5 hrow hfar
            clear ho5 hb5 hin5
            go_wp2_with (at_builtin; refine wpList_appI w5 rfl _ _ 23 rfl w.heap.size 3 ji jz Try.underlying23 hji hjz hj1 hj2 hj3 u11 xs rfl H5.out.2.2.1 y _ rfl rfl ?_ ?_ ?_)
            · omega
            · exact H5.out.2.1.size
            intro v6 w6 ho6 hg6
            have hin6 := ListIn.grown H5.out.1 hg6 HF5.out (fun i a ad v _ _ hv _ => by
              obtain ⟨A, c, e, hr, l1, l2, _⟩ := hv
              exact ⟨A, c, e, hr, l1, l2, fun _ _ h => by cases h⟩)
            have H6 := Lib.hid (And.intro ho6 (And.intro (H5.out.2.1.grown hg6 H5.out.2.1.size (fun k e => (H5.out.2.2.1.blk e).1)) hin6))
            clear hin6
            clear ho6 hg6
            go_wp2_with fail
            go_roundg z
            case measure => omega
            case rel => exact ⟨firstsS ks gs, xs ++ [y], A5, y, c5, rfl, hl5, hm5, by omega, by omega, r4', by have := HY.out.2.2.2.2.2.2; simp; omega, HR.out.2.2.2.2.1, H6.out.2.2, H6.out.1, H6.out.2.1, by rw [← HR.out.2.2.2.2.2.1, List.append_assoc]; simp [HR.out.2.2.2.1]⟩
          · have hq1' : q = 1 := by omega
            subst hq1'
            have heq := HY.out.2.2.2.2.2.1
            rw [lvGo_le (by have := HY.out.1; omega), List.append_nil] at heq
            have HF := Lib.hid heq
            clear heq
            go_wp2_with fail
            go_ret2
            rw [← HF.out]
            exact ⟨_, rfl, HY.out.2.2.2.1, HY.out.2.2.2.2.1⟩
end Go.Proofs.Ytlioclicopakbaa
