import Derived.Test.YtckpgbkabbddnaaCutsM
import Derived.Test.YtckpgbkabbddnaaPackSM
import Derived.Test.YtckpgbkabbddnaaPgsM
import Derived.Test.YtckpgbkabbddnaaRecGM
import Derived.Test.YtckpgbkabbddnaaCell2M
set_option linter.unusedVariables false
set_option linter.unusedSimpArgs false
/- Layer 13: contract of Pages. -/
namespace Go.Proofs.Ytckpgbkabbddnaa
open Go.RowKit

def partsC (l : List Fct) : List Nat → List (List Fct)
  | [] => []
  | a :: r => segs l a r
def partsS (s : Int) (l : List Fct) : List (List Fct) := partsC l (cutsS s l).1
def pagesS (s : Int) (l : List Fct) : List (List UInt8) × Nat := if (cutsS s l).2 ≠ 0 then ([], (cutsS s l).2) else ((partsS s l).map (pageOf s), 0)
def PagesEnd (w : World) (r : List (List UInt8) × Nat) (e : Ending) (w' : World) : Prop :=
  ∃ v, e = .returned (.tuple #[v, .int .i64 (r.2 : Int)]) ∧ OwnR w' w.heap.size v r.1.length r.1 ∧ Below w.heap.size w w'

theorem cuts_any (w : World) (s : Int) (A : Option Addr) (n d : Nat) (l : List Fct) (h : FctsIn w A n l) (hv : ∀ f ∈ l, f.val.length ≤ 140737488351232) (hn : n * 64 ≤ 140737488351232) :
    Calls Try.prog 22 #[.int .i64 s, .slice A n d] w (CutsEnd w (cutsS s l)) := by
  by_cases hs : 128 ≤ s ∧ s ≤ 256
  · exact cuts_ok w s A n d l h hv hn hs
  · exact cuts_size w s A n d l hs
theorem cutsS_code (s : Int) (l : List Fct) : (cutsS s l).2 ≤ 3 := by
  unfold cutsS
  split
  · simp
  · split
    · simp
    · split <;> simp
/-- Cuts that are made: what they rest on. -/
theorem cutsS_ok {s : Int} {l : List Fct} (h : (cutsS s l).2 = 0) : (128 ≤ s ∧ s ≤ 256) ∧ goodL l ∧ (∀ f ∈ l, costS f ≤ s.toNat - 6) ∧ (cutsS s l).1 = cutsGo (s.toNat - 6) l 0 0 0 := by
  unfold cutsS at h ⊢
  split at h
  · cases h
  · rename_i h1
    rw [if_neg h1]
    split at h
    · cases h
    · rename_i h2
      rw [if_neg h2]
      split at h
      · cases h
      · rename_i h3
        rw [if_neg h3]
        refine ⟨by omega, Classical.not_not.1 h2, fun f hf => ?_, rfl⟩
        have hlf : longB (s.toNat - 6) l = false := by simpa using h3
        unfold longB at hlf
        rw [List.any_eq_false] at hlf
        have := hlf f hf
        simp at this
        exact this
theorem partsC_len (l : List Fct) (at_ : List Nat) : (partsC l at_).length = at_.length := by
  cases at_ with
  | nil => rfl
  | cons a r => exact segs_len l a r
/-- Cuts that are made: the part of each. -/
theorem cutsS_at {s : Int} {l : List Fct} (h : (cutsS s l).2 = 0) : ∀ i p, (partsS s l)[i]? = some p →
    ∃ x, (cutsS s l).1[i]? = some x ∧ segOk l (s.toNat - 6) x ((cutsS s l).1.getD (i + 1) l.length) ∧ p = part l x ((cutsS s l).1.getD (i + 1) l.length) ∧
      (i + 1 < (cutsS s l).1.length → (cutsS s l).1.getD (i + 1) l.length < l.length ∧ fullAt l (s.toNat - 6) x ((cutsS s l).1.getD (i + 1) l.length)) := by
  obtain ⟨h1, h2, h3, h4⟩ := cutsS_ok h
  unfold partsS
  rw [h4]
  rcases cuts_chain l _ h3 with ⟨_, h5⟩ | ⟨_, r, h5, h6⟩
  · rw [h5]
    intro i p hp
    simp [partsC] at hp
  · rw [h5]
    exact segs_at l _ 0 r h6
theorem cutsS_len {s : Int} {l : List Fct} (h : (cutsS s l).2 = 0) : (cutsS s l).1.length ≤ l.length := by
  obtain ⟨h1, h2, h3, h4⟩ := cutsS_ok h
  rw [h4]
  rcases cuts_chain l _ h3 with ⟨_, h5⟩ | ⟨_, r, h5, h6⟩
  · rw [h5]; simp
  · have := chain_len l _ 0 r h6
    rw [h5, List.length_cons]
    omega

set_option maxRecDepth 100000 in
set_option maxHeartbeats 4000000 in
theorem pages_any (w : World) (s : Int) (A : Option Addr) (n d : Nat) (l : List Fct) (h : FctsIn w A n l) (hv : ∀ f ∈ l, f.val.length ≤ 140737488351232) (hn : n * 64 ≤ 140737488351232) :
    Calls Try.prog 8 #[.int .i64 s, .slice A n d] w (PagesEnd w (pagesS s l)) := by
  have HC := Lib.hid (cuts_any w s A n d l h hv hn)
  have H := Lib.hid (And.intro h (And.intro h.1 hv))
  have hcode := cutsS_code s l
  clear h hv
  obtain ⟨r, hr⟩ : ∃ r, pagesS s l = r := ⟨_, rfl⟩
  rw [hr]
  obtain ⟨⟨cs, ce⟩, hc⟩ : ∃ c, cutsS s l = c := ⟨_, rfl⟩
  rw [hc] at HC hcode
  dsimp only at hcode
  have HR := Lib.hid (And.intro hr hc)
  clear hr hc
  by_cases hce : ce = 0
  · subst hce
    have h0 : (cutsS s l).2 = 0 := by rw [HR.out.2]
    have hat := cutsS_at h0
    have hle := cutsS_len h0
    have hok := cutsS_ok h0
    have hr : ((partsS s l).map (pageOf s), 0) = r := by rw [← HR.out.1]; unfold pagesS; rw [if_neg (fun h => h h0)]
    have hpl : (partsS s l).length = cs.length := by unfold partsS; rw [partsC_len, HR.out.2]
    rw [HR.out.2] at hat hle
    dsimp only at hat hle
    have hput : ∀ i p, (partsS s l)[i]? = some p → ∃ x y, cs[i]? = some x ∧ y = cs.getD (i + 1) l.length ∧ x < y ∧ y ≤ n ∧ p = part l x y ∧ recPutS s (p.map chgOf) = (pageOf s p, 0) := by
      intro i p hp
      obtain ⟨x, e1, e2, e3, _⟩ := hat i p hp
      have := (part_page hok.1 hok.2.1.1 e2).2.1
      exact ⟨x, _, e1, rfl, e2.1, by have := e2.2.1; have := H.out.2.1; omega, e3, by rw [e3]; exact this⟩
    generalize partsS s l = ps at *
    have HP := Lib.hid (And.intro hr (And.intro hput hpl))
    have hle2 : cs.length ≤ n := by have := H.out.2.1; omega
    clear hr hput hpl hat hle hok h0 HR hcode
    obtain ⟨ii, iz, hii, hiz, hi1, hi2, hi3⟩ := chg_info'
    obtain ⟨pi, pz, hpi, hpz, hp1, hp2, hp3⟩ := pg_info'
    go_enter Try.func8, Try.ntmps8
    go_wp2_with (go_at_call 22; refine HC.out.mono ?_; rintro e w1 ⟨v1, rfl, ho1, hb1⟩; obtain ⟨A1, c1, rfl, hrv1, hl1, hm1⟩ := OwnI.slice ho1; have H1 := Lib.hid (And.intro hrv1 (And.intro hb1 (And.intro hl1 hm1))); clear ho1 hrv1 hb1 hl1 hm1)
    go_loopg [8, 28] n (fun k v i wr => ∃ j : Nat, j + k = n ∧ i = .int .i64 j ∧ OwnC wr w1.heap.size v j ((l.take j).map chgOf) ∧ Below w1.heap.size w1 wr)
    case atStart => exact ⟨0, by omega, rfl, OwnL.nil _ _ _, Below.refl _ _⟩
    case round =>
      obtain ⟨j, hj, rfl, ho, hb⟩ := hrel
      have HX := Lib.hid (And.intro hj (And.intro ho (And.intro hb (below_then H1.out.2.1 H1.out.2.1.size hb))))
      clear hj ho hb
      by_cases hlt : j < n
      · obtain ⟨f, hf⟩ : ∃ f, l[j]? = some f := ⟨_, List.getElem?_eq_getElem (by have := H.out.2.1; omega)⟩
        obtain ⟨okf, ad, B1, d1, hA, hr1, l1, l2, hblk, x0, x1, x2, x3, x4⟩ := FctsIn.at_ H.out.1 hf
        subst hA
        have up : ∀ {p : Addr} {u : Value}, w.cell? p = some u → p.block < w.heap.size → wr.cell? p = some u := fun hu hp => (World.cell?_of_block (HX.out.2.2.2.block _ hp)).trans hu
        have p0 := up x0 hblk
        have p1 := up x1 hblk
        have p2 := up x2 hblk
        have p3 := up x3 hblk
        have p4 := up x4 hblk
        have hjn : (j : Int) < (n : Int) := by omega
        have htk : (l.take (j + 1)).map chgOf = (l.take j).map chgOf ++ [chgOf f] := by
          rw [List.take_add_one, hf, List.map_append]
          rfl
        have hown := HX.out.2.1
        generalize (l.take j).map chgOf = G at hown htk
        have hval : ValB wr u8.ownBlock (.slice B1 f.val.length d1) f.val := valB_old hr1 l1 l2 HX.out.2.2.2 (fun k hk => by have h1 := (OwnL.blk HX.out.2.1 hk).1; have h2 := H1.out.2.1.size; omega)
        have HV := Lib.hid (And.intro okf (And.intro hval htk))
        have HO := Lib.hid hown
        clear hown
        clear x0 x1 x2 x3 x4 up hf okf hr1 hval htk
        obtain ⟨⟨fi, fa, fs, fc⟩, fv⟩ := f
        dsimp only at p0 p1 p2 p3 p4 HV l1
        obtain ⟨W, hW⟩ : ∃ W, wr.alloc (.cells #[.int .i64 fi, .int .u8 (fa.toNat : Int), .string fs, .int .i64 fc, .slice B1 fv.length d1] 41) = W := ⟨_, rfl⟩
        have hbW : Below wr.heap.size wr W := by rw [← hW]; exact (Below.refl _ _).alloc (Nat.le_refl _) _
        have hsW : W.heap.size = wr.heap.size + 1 := by rw [← hW]; exact alloc_sz _ _
        have HW := Lib.hid (And.intro (HO.out.below hbW) (And.intro (HV.out.2.1.below hbW) (And.intro (below_then HX.out.2.2.1 HX.out.2.2.1.size hbW) hsW)))
        clear hbW hsW
        subst hW
        go_wp2_with (at_builtin; refine wpList_appL1H (cell := chgCells) (val := Chg.val) (ok := fun c => okKy c.key) (sz := 6) _ rfl _ _ 31 rfl w1.heap.size 53 ii iz 72 Try.underlying31 hii hiz hi1 hi2 hi3 (by decide) chg_len chg_one u8 j G rfl HW.out.1 (chgOf ⟨⟨fi, fa, fs, fc⟩, fv⟩) (.slice B1 fv.length d1) _ HW.out.2.2.2 rfl HV.out.1 HW.out.2.1 _ rfl ?_ ?_ ?_ ?_)
        · unfold maxLen; omega
        · omega
        · exact HW.out.2.2.1.size
        intro v2 w2 ho2 hg2 hv2
        rw [← HV.out.2.2] at ho2
        have H2 := Lib.hid (And.intro ho2 (HW.out.2.2.1.grown hg2 HW.out.2.2.1.size (fun k e => (OwnL.blk HW.out.1 e).1)))
        clear ho2 hg2 hv2
        go_wp2_with fail
        go_roundg (n - (j + 1))
        case measure => have := HX.out.1; omega
        case rel => exact ⟨j + 1, by have := HX.out.1; omega, by go_num, H2.out.1, H2.out.2⟩
      · obtain rfl : j = n := by have := HX.out.1; omega
        have hge : ¬ (j : Int) < (j : Int) := by omega
        have ho := HX.out.2.1
        rw [List.take_of_length_le (by rw [H.out.2.1]; exact Nat.le_refl _)] at ho
        obtain ⟨A8, c8, rfl, hin, hl8, hm8, _⟩ := OwnL.listIn chg_len ho
        obtain ⟨W8, rfl⟩ : ∃ W8, W8 = wr := ⟨_, rfl⟩
        obtain ⟨M, hM⟩ : ∃ M, cs.length = M := ⟨_, rfl⟩
        rw [hM] at hle2 ⊢
        have HY := Lib.hid (And.intro hin (And.intro (H1.out.1.below HX.out.2.2.1) (And.intro HX.out.2.2.2 hM)))
        clear ho hin hM HX
        go_wp2_with fail
        go_loopg [11, 43] M (fun k o i wx => ∃ m : Nat, m + k = M ∧ i = .int .i64 m ∧ OwnR wx W8.heap.size o m ((ps.take m).map (pageOf s)) ∧ Below W8.heap.size W8 wx)
        case atStart => exact ⟨0, by omega, rfl, OwnL.nil _ _ _, Below.refl _ _⟩
        case round =>
          obtain ⟨m, hm, rfl, ho, hb⟩ := hrel
          have HX := Lib.hid (And.intro hm (And.intro ho (And.intro hb (below_then HY.out.2.2.1 HY.out.2.2.1.size hb))))
          clear hm ho hb
          by_cases hlt : m < M
          · obtain ⟨p, hp⟩ : ∃ p, ps[m]? = some p := ⟨_, List.getElem?_eq_getElem (by have := HP.out.2.2; have := HY.out.2.2.2; omega)⟩
            obtain ⟨x, y, hx, hy, hxy, hyn, hpp, hput⟩ := HP.out.2.1 m p hp
            have hmM : (m : Int) < (M : Int) := by omega
            have hcell : ∀ (q z : Nat), cs[q]? = some z → ∃ ad, A1 = some ad ∧ wr.cell? (ad.add q) = some (.int .i64 (z : Int)) := by
              intro q z hq
              have hql := (List.getElem?_eq_some_iff.1 hq).1
              obtain ⟨ad, hA, hc⟩ := (HY.out.2.1.below HX.out.2.2.1) (by rw [iv_length]; omega)
              exact ⟨ad, hA, hc q _ (by unfold iv; rw [List.getElem?_map, hq]; rfl)⟩
            obtain ⟨ad1, hA1, c0⟩ := hcell m x hx
            subst hA1
            obtain ⟨ad8, hA8⟩ : ∃ ad8, A8 = some ad8 := by
              obtain ⟨f, hf⟩ : ∃ f, l[0]? = some f := ⟨_, List.getElem?_eq_getElem (by have := H.out.2.1; omega)⟩
              obtain ⟨_, ad, _, hA, _⟩ := HY.out.1.2 0 (chgOf f) (by rw [List.getElem?_map, hf]; rfl)
              exact ⟨ad, hA⟩
            subst hA8
            have hin := ListIn.part (ListIn.below chg_len (by decide) HY.out.1 HX.out.2.2.1) x y (by omega) hyn
            rw [← List.map_take, ← List.map_drop] at hin
            rw [show (l.take y).drop x = p from hpp.symm] at hin
            have htk : (ps.take (m + 1)).map (pageOf s) = (ps.take m).map (pageOf s) ++ [pageOf s p] := by
              rw [List.take_add_one, hp, List.map_append]
              rfl
            have HV := Lib.hid (And.intro hin (And.intro hput htk))
            have hyc : y ≤ c8 := by omega
            have hx0 : (0 : Int) ≤ (x : Int) := by omega
            have hxyI : (x : Int) ≤ (y : Int) := by omega
            have hycI : (y : Int) ≤ (c8 : Int) := by omega
            rcases Nat.lt_or_ge (m + 1) M with hnext | hnext
            · have hy2 : cs[m + 1]? = some y := by
                have hl : m + 1 < cs.length := by rw [HY.out.2.2.2]; exact hnext
                rw [hy, List.getElem?_eq_getElem hl, List.getD_eq_getElem?_getD, List.getElem?_eq_getElem hl]
                rfl
              obtain ⟨ad1', hA1', c1'⟩ := hcell (m + 1) y hy2
              injection hA1' with hA1'
              subst hA1'
              have c2' : wr.cell? ⟨ad1.block, ad1.off + (m + 1), none⟩ = some (.int .i64 (y : Int)) := by
                rw [← c1']
                congr 1
              have hnI : (m : Int) + 1 < (M : Int) := by omega
              clear hin hput htk hp hx hy hpp hcell hy2
              go_wp2_with fail
              refine (recPut_any wr s (some (ad8.add (x * 6))) (y - x) (y - x) _ HV.out.1 (by unfold maxLen; omega)).mono ?_
              rintro e w2 ⟨v2, rfl, ho2, hb2⟩
              rw [HV.out.2.1] at ho2 ⊢
              dsimp only at ho2 ⊢
              have hvr := valB_row ho2 (row := u11.ownBlock) (fun k hk => (OwnL.blk HX.out.2.1 hk).2)
              obtain ⟨A2, c2, rfl, _, _, _, _⟩ := ho2.slice
              have htk := HV.out.2.2
              have hox := HX.out.2.1.below hb2
              generalize (ps.take m).map (pageOf s) = G at hox htk
              generalize pageOf s p = pg at *
              have H2 := Lib.hid (And.intro hox (And.intro hvr (And.intro (below_then HX.out.2.2.1 HX.out.2.2.1.size hb2) htk)))
              clear hox hvr ho2 hb2 htk
              go_wp2_with (at_builtin; refine wpList_appL1H (cell := pgCells) (val := id) (ok := pgOk) (sz := 1) w2 rfl _ _ 23 rfl W8.heap.size 28 pi pz 24 Try.underlying23 hpi hpz hp1 hp2 hp3 (by decide) pg_len pg_one u11 m G rfl H2.out.1 pg (.slice A2 pg.length c2) _ rfl rfl trivial H2.out.2.1 _ rfl ?_ ?_ ?_ ?_)
              · unfold maxLen; omega
              · omega
              · exact H2.out.2.2.1.size
              intro v3 w3 ho3 hg3 hv3
              rw [← H2.out.2.2.2] at ho3
              have H3 := Lib.hid (And.intro ho3 (H2.out.2.2.1.grown hg3 H2.out.2.2.1.size (fun k e => (OwnL.blk H2.out.1 e).1)))
              clear ho3 hg3 hv3
              go_wp2_with fail
              go_roundg (M - (m + 1))
              case measure => have := HX.out.1; omega
              case rel => exact ⟨m + 1, by have := HX.out.1; omega, by go_num, H3.out.1, H3.out.2⟩
            · obtain rfl : y = j := by
                rw [hy, List.getD_eq_getElem?_getD, List.getElem?_eq_none (by have := HY.out.2.2.2; omega)]
                exact H.out.2.1
              have hnI : ¬ (m : Int) + 1 < (M : Int) := by omega
              clear hin hput htk hp hx hy hpp hcell
              go_wp2_with fail
              refine (recPut_any wr s (some (ad8.add (x * 6))) (y - x) (y - x) _ HV.out.1 (by unfold maxLen; omega)).mono ?_
              rintro e w2 ⟨v2, rfl, ho2, hb2⟩
              rw [HV.out.2.1] at ho2 ⊢
              dsimp only at ho2 ⊢
              have hvr := valB_row ho2 (row := u11.ownBlock) (fun k hk => (OwnL.blk HX.out.2.1 hk).2)
              obtain ⟨A2, c2, rfl, _, _, _, _⟩ := ho2.slice
              have htk := HV.out.2.2
              have hox := HX.out.2.1.below hb2
              generalize (ps.take m).map (pageOf s) = G at hox htk
              generalize pageOf s p = pg at *
              have H2 := Lib.hid (And.intro hox (And.intro hvr (And.intro (below_then HX.out.2.2.1 HX.out.2.2.1.size hb2) htk)))
              clear hox hvr ho2 hb2 htk
              go_wp2_with (at_builtin; refine wpList_appL1H (cell := pgCells) (val := id) (ok := pgOk) (sz := 1) w2 rfl _ _ 23 rfl W8.heap.size 28 pi pz 24 Try.underlying23 hpi hpz hp1 hp2 hp3 (by decide) pg_len pg_one u11 m G rfl H2.out.1 pg (.slice A2 pg.length c2) _ rfl rfl trivial H2.out.2.1 _ rfl ?_ ?_ ?_ ?_)
              · unfold maxLen; omega
              · omega
              · exact H2.out.2.2.1.size
              intro v3 w3 ho3 hg3 hv3
              rw [← H2.out.2.2.2] at ho3
              have H3 := Lib.hid (And.intro ho3 (H2.out.2.2.1.grown hg3 H2.out.2.2.1.size (fun k e => (OwnL.blk H2.out.1 e).1)))
              clear ho3 hg3 hv3
              go_wp2_with fail
              go_roundg (M - (m + 1))
              case measure => have := HX.out.1; omega
              case rel => exact ⟨m + 1, by have := HX.out.1; omega, by go_num, H3.out.1, H3.out.2⟩
          · obtain rfl : m = M := by have := HX.out.1; omega
            have hge2 : ¬ (m : Int) < (m : Int) := by omega
            have ho := HX.out.2.1
            have hpl : ps.length = m := by rw [HP.out.2.2]; exact HY.out.2.2.2
            rw [List.take_of_length_le (by omega)] at ho
            have ho2 : OwnR wr w.heap.size u11 r.1.length r.1 := by
              rw [← HP.out.1]
              dsimp only
              rw [List.length_map, hpl]
              exact ho.lower HY.out.2.2.1.size
            have hr2 : r.2 = 0 := by rw [← HP.out.1]
            have HE := Lib.hid (And.intro ho2 hr2)
            clear ho ho2 hr2 hpl
            go_wp2_with fail
            go_ret2
            refine ⟨u11, ?_, HE.out.1, HX.out.2.2.2⟩
            rw [HE.out.2]
            rfl
  · have hr : r = ([], ce) := by
      rw [← HR.out.1]
      unfold pagesS
      rw [HR.out.2]
      exact if_pos hce
    have hne : ((ce : Int) != 0) = true := by simp; omega
    have HRR := Lib.hid hr
    clear hr hce HR H
    go_enter Try.func8, Try.ntmps8
    go_wp2_with (go_at_call 22; refine HC.out.mono ?_; rintro e w1 ⟨v1, rfl, ho1, hb1⟩; obtain ⟨A1, c1, rfl, hrv1, hl1, hm1⟩ := OwnI.slice ho1; have H1 := Lib.hid hb1; clear ho1 hrv1 hb1 hl1 hm1)
    go_ret2
    rw [HRR.out]
    exact ⟨_, rfl, OwnL.nil _ _ _, H1.out⟩
end Go.Proofs.Ytckpgbkabbddnaa

/- Layer 13: Many, the fact of works, works. -/
namespace Go.Proofs.Ytckpgbkabbddnaa
open Go.RowKit

theorem many_any (w : World) (s : Int) (A : Option Addr) (n d : Nat) (l : List Fct) (h : FctsIn w A n l) (hv : ∀ f ∈ l, f.val.length ≤ 140737488351232) (hn : n * 64 ≤ 140737488351232) :
    Calls Try.prog 16 #[.int .i64 s, .slice A n d] w fun e w' => e = .returned (.tuple #[.int .i64 ((cutsS s l).1.length : Int), .int .i64 ((cutsS s l).2 : Int)]) ∧ Below w.heap.size w w' := by
  have HC := Lib.hid (cuts_any w s A n d l h hv hn)
  clear h hv hn
  generalize cutsS s l = r at *
  obtain ⟨cs, ce⟩ := r
  dsimp only at HC ⊢
  obtain ⟨M, hM⟩ : ∃ M, cs.length = M := ⟨_, rfl⟩
  rw [hM]
  have HM := Lib.hid hM
  clear hM
  go_enter Try.func16, Try.ntmps16
  go_wp2_with (go_at_call 22; refine HC.out.mono ?_; rintro e w1 ⟨v1, rfl, ho1, hb1⟩; obtain ⟨A1, c1, rfl, hrv1, hl1, hm1⟩ := OwnI.slice ho1; dsimp only; rw [HM.out]; have H1 := Lib.hid hb1; clear ho1 hrv1 hb1 hl1 hm1)
  go_ret2
  exact ⟨rfl, H1.out⟩

theorem post_cell1 {P : Program} {fn : Func} {p : Tmp} {ty : TypeId} (h : fn.results = #[.cell p ty]) {d : TypeDesc} (hu : P.underlying ty = some d) (hd : (match d with | .struct _ | .array _ _ => true | _ => false) = true)
    {Q : Ending → World → Prop} {tmps : Array Value} {w : World} {g : Nat} {t : TypeId} (cs : Array Value) (hp : tmps.getD p undef = .pointer (some ⟨g, 0, none⟩)) (hg : w.heap[g]? = some (.cells cs t (0, 0)))
    (hi : (P.info? ty).map (·.size) = some cs.size) (hQ : Q (.returned (.agg cs)) w) : bodyPost P fn Q .ret { tmps := tmps, defers := [] } w :=
  bodyPost_ret (v := .agg cs) (results_cell_row h tmps w g t cs (0, 0) d hp hg hu hd hi) rfl hQ
def fOne : Fct := ⟨⟨1, 1, .empty, 0⟩, [2, 1, 0, 0]⟩
theorem one13 (w : World) :
    Calls Try.prog 24 #[.int .i64 1] w fun e w' => ∃ g, e = .returned (.agg #[.int .i64 1, .int .u8 1, .string .empty, .int .i64 0, .slice (some ⟨g, 0, none⟩) 4 4]) ∧ RV w' (some ⟨g, 0, none⟩) (bv [2, 1, 0, 0]) ∧ Below w.heap.size w w' := by
  go_enter Try.func24, Try.ntmps24
  go_wp2_with fail
  have hR := RowB.new (w.alloc (.cells #[.int .i64 1, .int .u8 1, .string { data := #[] }, .int .i64 0, .slice (some ⟨w.heap.size + 1, 0, none⟩) 4 4] 41)) 5 [2, 1, 0, 0]
  rw [alloc_sz] at hR
  refine post_cell1 Try.results24 Try.underlying41 rfl _ rfl ((Blk.new w 41 _).alloc _) (by kernel_rfl) ?_
  exact ⟨_, rfl, hR.rv, ((Below.refl _ _).alloc (Nat.le_refl _) _).alloc (by rw [alloc_sz]; omega) _⟩
theorem fcts_one {w : World} {g h d : Nat} {t : TypeId} (hb : Blk w g t #[.int .i64 1, .int .u8 1, .string .empty, .int .i64 0, .slice (some ⟨h, 0, none⟩) 4 d]) (hr : RV w (some ⟨h, 0, none⟩) (bv [2, 1, 0, 0])) (h4 : 4 ≤ d) (hd : d ≤ maxLen) : FctsIn w (some ⟨g, 0, none⟩) 1 [fOne] := by
  refine ⟨rfl, fun i a ha => ?_⟩
  cases i with
  | succ i => simp at ha
  | zero =>
    cases ha
    refine ⟨(by decide : fOne.key.name.size ≤ maxLen), _, .slice (some ⟨h, 0, none⟩) 4 d, rfl, ⟨_, d, rfl, hr, h4, hd, fun _ _ _ e => by cases e⟩, fun k u hu => ?_⟩
    rw [Nat.zero_mul, add_zero, add_lit0, hb.cell]
    simpa [fctCells, fOne] using hu
theorem fcts_nil (w : World) (A : Option Addr) : FctsIn w A 0 [] := ⟨rfl, fun i a h => by simp at h⟩

set_option maxRecDepth 100000 in
set_option maxHeartbeats 1000000 in
theorem works13_any (w : World) : Calls Try.prog 9 #[] w fun e w' => e = .returned (.bool true) ∧ Below w.heap.size w w' := by
  have p0 : cutsS 128 [fOne] = ([0], 0) := by decide +kernel
  have p1 : pagesS 128 [] = ([], 0) := by decide +kernel
  have p2 : costS fOne = 9 := by decide +kernel
  have HP := Lib.hid (And.intro p0 (And.intro p1 p2))
  clear p0 p1 p2
  go_enter Try.func9, Try.ntmps9
  go_wp2_with fail
  refine (one13 w).mono ?_
  rintro e w1 ⟨g, rfl, hr1, hb1⟩
  have H1 := Lib.hid (And.intro hr1 hb1)
  clear hr1 hb1
  go_wp2_with fail
  refine (many_any _ 128 (some ⟨w1.heap.size, 0, none⟩) 1 1 [fOne] (fcts_one (Blk.new w1 41 _) (H1.out.1.alloc _) (by decide) (by decide)) (by decide) (by decide)).mono ?_
  rintro e w2 ⟨rfl, hb2⟩
  rw [HP.out.1]
  have H2 := Lib.hid (below_then H1.out.2 H1.out.2.size (below_new hb2))
  clear hb2
  dsimp only [List.length_cons, List.length_nil]
  go_wp2_with fail
  refine (pages_any w2 128 none 0 0 [] (fcts_nil _ _) (by simp) (by decide)).mono ?_
  rintro e w3 ⟨v3, rfl, ho3, hb3⟩
  rw [HP.out.2.1] at ho3 ⊢
  obtain ⟨A3, c3, rfl, _, _, _, _⟩ := OwnL.listIn pg_len ho3
  have H3 := Lib.hid (below_then H2.out H2.out.size hb3)
  clear ho3 hb3
  dsimp only [List.length_nil]
  go_wp2_with fail
  refine (one13 w3).mono ?_
  rintro e w4 ⟨g4, rfl, hr4, hb4⟩
  have H4 := Lib.hid (And.intro hr4 (below_then H3.out H3.out.size hb4))
  clear hr4 hb4
  go_wp2_with fail
  refine (cost_any w4 fOne (by decide : fOne.key.name.size ≤ maxLen) (some ⟨g4, 0, none⟩) 4 4 rfl (by decide)).mono ?_
  rintro e w5 ⟨rfl, hb5⟩
  rw [HP.out.2.2]
  have H5 := Lib.hid (below_then H4.out.2 H4.out.2.size hb5)
  clear hb5
  go_wp2_with fail
  go_ret
  exact ⟨rfl, H5.out⟩
end Go.Proofs.Ytckpgbkabbddnaa
