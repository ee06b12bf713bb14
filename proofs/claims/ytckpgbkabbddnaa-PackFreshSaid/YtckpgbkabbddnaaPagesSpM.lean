import Derived.Test.YtckpgbkabbddnaaMPages
import Derived.Test.YtckpgbkabbddnaaMSp
set_option linter.unusedVariables false
set_option linter.unusedSimpArgs false
/- Layer 13: contract of Pages, whose pages may be spoilt (printed by gen_pagessp.py out of XPages). -/
namespace Go.Proofs.Ytckpgbkabbddnaa
open Go.RowKit

/-- Pages of the call's own, each in memory of its own. -/
def OwnSp (w : World) (base : Nat) (v : Value) (n : Nat) (qs : List (List UInt8 × Value)) : Prop :=
  OwnPs pgCells id pgOk 1 28 w base v n qs ∧ ∀ p ∈ qs, OffR w base v.ownBlock p.2 p.1
theorem OwnSp.nil (w : World) (base : Nat) : OwnSp w base (.slice none 0 0) 0 [] := ⟨OwnPs.nil _ _ _, fun _ h => by cases h⟩
theorem OwnSp.below {w w' : World} {base : Nat} {v : Value} {n : Nat} {qs : List (List UInt8 × Value)} (h : OwnSp w base v n qs) (hb : Below w.heap.size w w') : OwnSp w' base v n qs := ⟨OwnPs.below h.1 hb, fun p hp => (h.2 p hp).below hb⟩
theorem SpRow.lower {α : Type} {cell : α → Value → List Value} {sz : Nat} {w : World} {base b : Nat} {A : Option Addr} {n : Nat} {ps : List (α × Value)} (h : SpRow cell sz w base A n ps) (hb : b ≤ base) : SpRow cell sz w b A n ps :=
  ⟨h.1, fun p hp => ⟨(h.2.1 p hp).1.imp fun xs ho => ho.lower hb, fun g hg => ⟨Nat.le_trans hb ((h.2.1 p hp).2 g hg).1, ((h.2.1 p hp).2 g hg).2⟩⟩, h.2.2⟩
theorem spRow_nilP (w : World) (base : Nat) : SpRow pgCells 1 w base none 0 [] := ⟨rfl, fun _ h => (by cases h), fun i p h => by simp at h⟩
def PagesSp (w : World) (r : List (List UInt8) × Nat) (e : Ending) (w' : World) : Prop :=
  ∃ (A : Option Addr) (c : Nat) (qs : List (List UInt8 × Value)), e = .returned (.tuple #[.slice A r.1.length c, .int .i64 (r.2 : Int)]) ∧ r.1.length ≤ c ∧ c ≤ maxLen ∧ SpRow pgCells 1 w' w.heap.size A r.1.length qs ∧ Below w.heap.size w w'
theorem OffR.valR {w : World} {base : Nat} {row : Option Nat} {v : Value} {x : List UInt8} (h : OffR w base row v x) : ValB w row v x := by
  obtain ⟨A, c, hv, hrv, l1, l2, l3⟩ := h.1.slice
  refine ⟨A, c, hv, hrv, l1, l2, fun ad e1 hn he => ?_⟩
  have h1 := (l3 ad e1).symm
  rcases h.2 with h2 | h2
  · rw [h2] at h1
    cases h1
  · exact h2 (h1.trans he)
theorem wpList_appSp (W : World) {ops : Array Oper} {rest : List Oper} {o : Oper} {a' : Act} {Q : Exit → Act → World → Prop} (hgd : o.guard = none) (s x : Operand)
    (hop : o.op = .call { callee := .builtin .append, args := #[s, x], argTypes := #[23, 23] })
    (base : Nat) (i : TypeInfo) (z : Value) (hi : Try.prog.info? 28 = some i) (hz : i.zero = some z) (hsize : i.size = 1) (hby : i.bytes = 24) (hzs : z.cells.size = 1)
    (v : Value) (n : Nat) (qs : List (List UInt8 × Value)) (hs : a'.eval s = v) (hown : OwnSp W base v n qs) (u : Value) (pg : List UInt8) (H : Nat) (hH : W.heap.size = H) (hx : a'.eval x = .slice (some ⟨H, 0, none⟩) 1 1) (hoff : OffR W base v.ownBlock u pg) (cs : Array Value) (hcs : cs = #[u])
    (h63 : n + 1 ≤ maxLen) (hbytes : ((n + 1) + (n + 1) / 4 + 192) * 24 ≤ 281474976710656) (hbase : base ≤ W.heap.size)
    (h : ∀ v' w', OwnSp w' base v' (n + 1) (qs ++ [(pg, u)]) → W.grownBy w' v.ownBlock → (v'.ownBlock = v.ownBlock ∨ ∃ k, v'.ownBlock = some k ∧ W.heap.size ≤ k) → wpList Try.prog ops Q rest (a'.put o.dst v') w') :
    wpList Try.prog ops Q (o :: rest) a' (W.alloc (.cells cs 28)) :=
  wpList_appP1H (cell := pgCells) (val := id) (ok := pgOk) (sz := 1) W hgd s x 23 hop base 28 i z 24 Try.underlying23 hi hz hsize hby hzs (by decide) pg_len pg_one v n qs hs hown.1 pg u H hH hx trivial hoff.valR cs (by rw [hcs]; rfl) h63 hbytes hbase
    (fun v' w' h1 h2 h3 => h v' w' ⟨h1, fun p hp => by
      rcases List.mem_append.1 hp with hp | hp
      · exact (hown.2 p hp).app h2 h3
      · rw [List.mem_singleton] at hp
        subst hp
        exact hoff.app h2 h3⟩ h2 h3)

set_option maxRecDepth 100000 in
set_option maxHeartbeats 4000000 in
theorem pages_sp (w : World) (s : Int) (A : Option Addr) (n d : Nat) (l : List Fct) (h : FctsIn w A n l) (hv : ∀ f ∈ l, f.val.length ≤ 140737488351232) (hn : n * 64 ≤ 140737488351232) :
    Calls Try.prog 8 #[.int .i64 s, .slice A n d] w (PagesSp w (pagesS s l)) := by
  have HC := Lib.hid (cuts_any w s A n d l h hv hn)
  have H := Lib.hid (And.intro h (And.intro h.1 hv))
  have hcode := cutsS_code s l
  clear h hv
  obtain ⟨r, hr⟩ : ∃ r, pagesS s l = r := ⟨_, rfl⟩
  rw [hr]
  obtain ⟨⟨cs, ce⟩, hc⟩ : ∃ c, cutsS s l = c := ⟨_, rfl⟩
  rw [hc] at HC hcode
  dsimp only at hcode
  have HR := Lib.hid (And.intro hr hc)
  clear hr hc
  by_cases hce : ce = 0
  · subst hce
    have h0 : (cutsS s l).2 = 0 := by rw [HR.out.2]
    have hat := cutsS_at h0
    have hle := cutsS_len h0
    have hok := cutsS_ok h0
    have hr : ((partsS s l).map (pageOf s), 0) = r := by rw [← HR.out.1]; unfold pagesS; rw [if_neg (fun h => h h0)]
    have hpl : (partsS s l).length = cs.length := by unfold partsS; rw [partsC_len, HR.out.2]
    rw [HR.out.2] at hat hle
    dsimp only at hat hle
    have hput : ∀ i p, (partsS s l)[i]? = some p → ∃ x y, cs[i]? = some x ∧ y = cs.getD (i + 1) l.length ∧ x < y ∧ y ≤ n ∧ p = part l x y ∧ recPutS s (p.map chgOf) = (pageOf s p, 0) := by
      intro i p hp
      obtain ⟨x, e1, e2, e3, _⟩ := hat i p hp
      have := (part_page hok.1 hok.2.1.1 e2).2.1
      exact ⟨x, _, e1, rfl, e2.1, by have := e2.2.1; have := H.out.2.1; omega, e3, by rw [e3]; exact this⟩
    generalize partsS s l = ps at *
    have HP := Lib.hid (And.intro hr (And.intro hput hpl))
    have hle2 : cs.length ≤ n := by have := H.out.2.1; omega
    clear hr hput hpl hat hle hok h0 HR hcode
    obtain ⟨ii, iz, hii, hiz, hi1, hi2, hi3⟩ := chg_info'
    obtain ⟨pi, pz, hpi, hpz, hp1, hp2, hp3⟩ := pg_info'
    go_enter Try.func8, Try.ntmps8
    go_wp2_with (go_at_call 22; refine HC.out.mono ?_; rintro e w1 ⟨v1, rfl, ho1, hb1⟩; obtain ⟨A1, c1, rfl, hrv1, hl1, hm1⟩ := OwnI.slice ho1; have H1 := Lib.hid (And.intro hrv1 (And.intro hb1 (And.intro hl1 hm1))); clear ho1 hrv1 hb1 hl1 hm1)
    go_loopg [8, 28] n (fun k v i wr => ∃ j : Nat, j + k = n ∧ i = .int .i64 j ∧ OwnC wr w1.heap.size v j ((l.take j).map chgOf) ∧ Below w1.heap.size w1 wr)
    case atStart => exact ⟨0, by omega, rfl, OwnL.nil _ _ _, Below.refl _ _⟩
    case round =>
      obtain ⟨j, hj, rfl, ho, hb⟩ := hrel
      have HX := Lib.hid (And.intro hj (And.intro ho (And.intro hb (below_then H1.out.2.1 H1.out.2.1.size hb))))
      clear hj ho hb
      by_cases hlt : j < n
      · obtain ⟨f, hf⟩ : ∃ f, l[j]? = some f := ⟨_, List.getElem?_eq_getElem (by have := H.out.2.1; omega)⟩
        obtain ⟨okf, ad, B1, d1, hA, hr1, l1, l2, hblk, x0, x1, x2, x3, x4⟩ := FctsIn.at_ H.out.1 hf
        subst hA
        have up : ∀ {p : Addr} {u : Value}, w.cell? p = some u → p.block < w.heap.size → wr.cell? p = some u := fun hu hp => (World.cell?_of_block (HX.out.2.2.2.block _ hp)).trans hu
        have p0 := up x0 hblk
        have p1 := up x1 hblk
        have p2 := up x2 hblk
        have p3 := up x3 hblk
        have p4 := up x4 hblk
        have hjn : (j : Int) < (n : Int) := by omega
        have htk : (l.take (j + 1)).map chgOf = (l.take j).map chgOf ++ [chgOf f] := by
          rw [List.take_add_one, hf, List.map_append]
          rfl
        have hown := HX.out.2.1
        generalize (l.take j).map chgOf = G at hown htk
        have hval : ValB wr u8.ownBlock (.slice B1 f.val.length d1) f.val := valB_old hr1 l1 l2 HX.out.2.2.2 (fun k hk => by have h1 := (OwnL.blk HX.out.2.1 hk).1; have h2 := H1.out.2.1.size; omega)
        have HV := Lib.hid (And.intro okf (And.intro hval htk))
        have HO := Lib.hid hown
        clear hown
        clear x0 x1 x2 x3 x4 up hf okf hr1 hval htk
        obtain ⟨⟨fi, fa, fs, fc⟩, fv⟩ := f
        dsimp only at p0 p1 p2 p3 p4 HV l1
        obtain ⟨W, hW⟩ : ∃ W, wr.alloc (.cells #[.int .i64 fi, .int .u8 (fa.toNat : Int), .string fs, .int .i64 fc, .slice B1 fv.length d1] 41) = W := ⟨_, rfl⟩
        have hbW : Below wr.heap.size wr W := by rw [← hW]; exact (Below.refl _ _).alloc (Nat.le_refl _) _
        have hsW : W.heap.size = wr.heap.size + 1 := by rw [← hW]; exact alloc_sz _ _
        have HW := Lib.hid (And.intro (HO.out.below hbW) (And.intro (HV.out.2.1.below hbW) (And.intro (below_then HX.out.2.2.1 HX.out.2.2.1.size hbW) hsW)))
        clear hbW hsW
        subst hW
        go_wp2_with (at_builtin; refine wpList_appL1H (cell := chgCells) (val := Chg.val) (ok := fun c => okKy c.key) (sz := 6) _ rfl _ _ 31 rfl w1.heap.size 53 ii iz 72 Try.underlying31 hii hiz hi1 hi2 hi3 (by decide) chg_len chg_one u8 j G rfl HW.out.1 (chgOf ⟨⟨fi, fa, fs, fc⟩, fv⟩) (.slice B1 fv.length d1) _ HW.out.2.2.2 rfl HV.out.1 HW.out.2.1 _ rfl ?_ ?_ ?_ ?_)
        · unfold maxLen; omega
        · omega
        · exact HW.out.2.2.1.size
        intro v2 w2 ho2 hg2 hv2
        rw [← HV.out.2.2] at ho2
        have H2 := Lib.hid (And.intro ho2 (HW.out.2.2.1.grown hg2 HW.out.2.2.1.size (fun k e => (OwnL.blk HW.out.1 e).1)))
        clear ho2 hg2 hv2
        go_wp2_with fail
        go_roundg (n - (j + 1))
        case measure => have := HX.out.1; omega
        case rel => exact ⟨j + 1, by have := HX.out.1; omega, by go_num, H2.out.1, H2.out.2⟩
      · obtain rfl : j = n := by have := HX.out.1; omega
        have hge : ¬ (j : Int) < (j : Int) := by omega
        have ho := HX.out.2.1
        rw [List.take_of_length_le (by rw [H.out.2.1]; exact Nat.le_refl _)] at ho
        obtain ⟨A8, c8, rfl, hin, hl8, hm8, _⟩ := OwnL.listIn chg_len ho
        obtain ⟨W8, rfl⟩ : ∃ W8, W8 = wr := ⟨_, rfl⟩
        obtain ⟨M, hM⟩ : ∃ M, cs.length = M := ⟨_, rfl⟩
        rw [hM] at hle2 ⊢
        have HY := Lib.hid (And.intro hin (And.intro (H1.out.1.below HX.out.2.2.1) (And.intro HX.out.2.2.2 hM)))
        clear ho hin hM HX
        go_wp2_with fail
        go_loopg [11, 43] M (fun k o i wx => ∃ m : Nat, m + k = M ∧ i = .int .i64 m ∧ (∃ qs, OwnSp wx W8.heap.size o m qs) ∧ Below W8.heap.size W8 wx)
        case atStart => exact ⟨0, by omega, rfl, ⟨[], OwnSp.nil _ _⟩, Below.refl _ _⟩
        case round =>
          obtain ⟨m, hm, rfl, ⟨qs, ho⟩, hb⟩ := hrel
          have HX := Lib.hid (And.intro hm (And.intro ho (And.intro hb (below_then HY.out.2.2.1 HY.out.2.2.1.size hb))))
          clear hm ho hb
          by_cases hlt : m < M
          · obtain ⟨p, hp⟩ : ∃ p, ps[m]? = some p := ⟨_, List.getElem?_eq_getElem (by have := HP.out.2.2; have := HY.out.2.2.2; omega)⟩
            obtain ⟨x, y, hx, hy, hxy, hyn, hpp, hput⟩ := HP.out.2.1 m p hp
            have hmM : (m : Int) < (M : Int) := by omega
            have hcell : ∀ (q z : Nat), cs[q]? = some z → ∃ ad, A1 = some ad ∧ wr.cell? (ad.add q) = some (.int .i64 (z : Int)) := by
              intro q z hq
              have hql := (List.getElem?_eq_some_iff.1 hq).1
              obtain ⟨ad, hA, hc⟩ := (HY.out.2.1.below HX.out.2.2.1) (by rw [iv_length]; omega)
              exact ⟨ad, hA, hc q _ (by unfold iv; rw [List.getElem?_map, hq]; rfl)⟩
            obtain ⟨ad1, hA1, c0⟩ := hcell m x hx
            subst hA1
            obtain ⟨ad8, hA8⟩ : ∃ ad8, A8 = some ad8 := by
              obtain ⟨f, hf⟩ : ∃ f, l[0]? = some f := ⟨_, List.getElem?_eq_getElem (by have := H.out.2.1; omega)⟩
              obtain ⟨_, ad, _, hA, _⟩ := HY.out.1.2 0 (chgOf f) (by rw [List.getElem?_map, hf]; rfl)
              exact ⟨ad, hA⟩
            subst hA8
            have hin := ListIn.part (ListIn.below chg_len (by decide) HY.out.1 HX.out.2.2.1) x y (by omega) hyn
            rw [← List.map_take, ← List.map_drop] at hin
            rw [show (l.take y).drop x = p from hpp.symm] at hin
            have htk : (ps.take (m + 1)).map (pageOf s) = (ps.take m).map (pageOf s) ++ [pageOf s p] := by
              rw [List.take_add_one, hp, List.map_append]
              rfl
            have HV := Lib.hid (And.intro hin (And.intro hput htk))
            have hyc : y ≤ c8 := by omega
            have hx0 : (0 : Int) ≤ (x : Int) := by omega
            have hxyI : (x : Int) ≤ (y : Int) := by omega
            have hycI : (y : Int) ≤ (c8 : Int) := by omega
            rcases Nat.lt_or_ge (m + 1) M with hnext | hnext
            · have hy2 : cs[m + 1]? = some y := by
                have hl : m + 1 < cs.length := by rw [HY.out.2.2.2]; exact hnext
                rw [hy, List.getElem?_eq_getElem hl, List.getD_eq_getElem?_getD, List.getElem?_eq_getElem hl]
                rfl
              obtain ⟨ad1', hA1', c1'⟩ := hcell (m + 1) y hy2
              injection hA1' with hA1'
              subst hA1'
              have c2' : wr.cell? ⟨ad1.block, ad1.off + (m + 1), none⟩ = some (.int .i64 (y : Int)) := by
                rw [← c1']
                congr 1
              have hnI : (m : Int) + 1 < (M : Int) := by omega
              clear hin hput htk hp hx hy hpp hcell hy2
              go_wp2_with fail
              refine (recPut_any wr s (some (ad8.add (x * 6))) (y - x) (y - x) _ HV.out.1 (by unfold maxLen; omega)).mono ?_
              rintro e w2 ⟨v2, rfl, ho2, hb2⟩
              rw [HV.out.2.1] at ho2 ⊢
              dsimp only at ho2 ⊢
              have hoff : OffR w2 W8.heap.size u11.ownBlock v2 (pageOf s p) := ⟨ho2.lower (by have := HX.out.2.2.1.size; omega), by
                cases hv2 : v2.ownBlock with
                | none => exact .inl rfl
                | some k => exact .inr (fun e => by have h1 := (ho2.blk hv2).1; have h2 := (OwnPs.blk HX.out.2.1.1 e.symm).2; omega)⟩
              obtain ⟨A2, c2, rfl, _, _, _, _⟩ := ho2.slice
              have hox := HX.out.2.1.below hb2
              generalize pageOf s p = pg at *
              have H2 := Lib.hid (And.intro hox (And.intro hoff (below_then HX.out.2.2.1 HX.out.2.2.1.size hb2)))
              clear hox hoff ho2 hb2
              go_wp2_with (at_builtin; refine wpList_appSp w2 rfl _ _ rfl W8.heap.size pi pz hpi hpz hp1 hp2 hp3 u11 m qs rfl H2.out.1 (.slice A2 pg.length c2) pg _ rfl rfl H2.out.2.1 _ rfl ?_ ?_ ?_ ?_)
              · unfold maxLen; omega
              · omega
              · exact H2.out.2.2.size
              intro v3 w3 ho3 hg3 hv3
              have H3 := Lib.hid (And.intro ho3 (H2.out.2.2.grown hg3 H2.out.2.2.size (fun k e => (OwnPs.blk H2.out.1.1 e).1)))
              clear ho3 hg3 hv3
              go_wp2_with fail
              go_roundg (M - (m + 1))
              case measure => have := HX.out.1; omega
              case rel => exact ⟨m + 1, by have := HX.out.1; omega, by go_num, ⟨_, H3.out.1⟩, H3.out.2⟩
            · obtain rfl : y = j := by
                rw [hy, List.getD_eq_getElem?_getD, List.getElem?_eq_none (by have := HY.out.2.2.2; omega)]
                exact H.out.2.1
              have hnI : ¬ (m : Int) + 1 < (M : Int) := by omega
              clear hin hput htk hp hx hy hpp hcell
              go_wp2_with fail
              refine (recPut_any wr s (some (ad8.add (x * 6))) (y - x) (y - x) _ HV.out.1 (by unfold maxLen; omega)).mono ?_
              rintro e w2 ⟨v2, rfl, ho2, hb2⟩
              rw [HV.out.2.1] at ho2 ⊢
              dsimp only at ho2 ⊢
              have hoff : OffR w2 W8.heap.size u11.ownBlock v2 (pageOf s p) := ⟨ho2.lower (by have := HX.out.2.2.1.size; omega), by
                cases hv2 : v2.ownBlock with
                | none => exact .inl rfl
                | some k => exact .inr (fun e => by have h1 := (ho2.blk hv2).1; have h2 := (OwnPs.blk HX.out.2.1.1 e.symm).2; omega)⟩
              obtain ⟨A2, c2, rfl, _, _, _, _⟩ := ho2.slice
              have hox := HX.out.2.1.below hb2
              generalize pageOf s p = pg at *
              have H2 := Lib.hid (And.intro hox (And.intro hoff (below_then HX.out.2.2.1 HX.out.2.2.1.size hb2)))
              clear hox hoff ho2 hb2
              go_wp2_with (at_builtin; refine wpList_appSp w2 rfl _ _ rfl W8.heap.size pi pz hpi hpz hp1 hp2 hp3 u11 m qs rfl H2.out.1 (.slice A2 pg.length c2) pg _ rfl rfl H2.out.2.1 _ rfl ?_ ?_ ?_ ?_)
              · unfold maxLen; omega
              · omega
              · exact H2.out.2.2.size
              intro v3 w3 ho3 hg3 hv3
              have H3 := Lib.hid (And.intro ho3 (H2.out.2.2.grown hg3 H2.out.2.2.size (fun k e => (OwnPs.blk H2.out.1.1 e).1)))
              clear ho3 hg3 hv3
              go_wp2_with fail
              go_roundg (M - (m + 1))
              case measure => have := HX.out.1; omega
              case rel => exact ⟨m + 1, by have := HX.out.1; omega, by go_num, ⟨_, H3.out.1⟩, H3.out.2⟩
          · obtain rfl : m = M := by have := HX.out.1; omega
            have hge2 : ¬ (m : Int) < (m : Int) := by omega
            have hpl : ps.length = m := by rw [HP.out.2.2]; exact HY.out.2.2.2
            obtain ⟨A9, c9, rfl, hm1, hm2, hsp⟩ := OwnPs.spRow pg_len HX.out.2.1.1 HX.out.2.1.2
            have hsp2 := hsp.lower HY.out.2.2.1.size
            have hr1 : r.1.length = m := by rw [← HP.out.1]; dsimp only; rw [List.length_map, hpl]
            have hr2 : r.2 = 0 := by rw [← HP.out.1]
            have HE := Lib.hid (And.intro hsp2 (And.intro hr1 hr2))
            clear hsp hsp2 hr1 hr2 hpl
            go_wp2_with fail
            go_ret2
            refine ⟨A9, c9, qs, ?_, by rw [HE.out.2.1]; exact hm1, hm2, by rw [HE.out.2.1]; exact HE.out.1, HX.out.2.2.2⟩
            rw [HE.out.2.1, HE.out.2.2]
            rfl
  · have hr : r = ([], ce) := by
      rw [← HR.out.1]
      unfold pagesS
      rw [HR.out.2]
      exact if_pos hce
    have hne : ((ce : Int) != 0) = true := by simp; omega
    have HRR := Lib.hid hr
    clear hr hce HR H
    go_enter Try.func8, Try.ntmps8
    go_wp2_with (go_at_call 22; refine HC.out.mono ?_; rintro e w1 ⟨v1, rfl, ho1, hb1⟩; obtain ⟨A1, c1, rfl, hrv1, hl1, hm1⟩ := OwnI.slice ho1; have H1 := Lib.hid hb1; clear ho1 hrv1 hb1 hl1 hm1)
    go_ret2
    rw [HRR.out]
    exact ⟨none, 0, [], rfl, Nat.le_refl _, by decide, spRow_nilP _ _, H1.out⟩
end Go.Proofs.Ytckpgbkabbddnaa
