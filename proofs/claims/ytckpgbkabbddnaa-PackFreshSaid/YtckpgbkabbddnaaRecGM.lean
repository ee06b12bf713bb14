import Derived.Test.YtckpgbkabbddnaaRecOM
import Derived.Test.YtckpgbkabbddnaaMPlain
import Derived.Test.YtckpgbkabbddnaaMRows
import Derived.Test.YtckpgbkabbddnaaMTake
set_option linter.unusedVariables false
set_option linter.unusedSimpArgs false
/- Layer 11: contract of Get. -/
namespace Go.Proofs.Ytckpgbkabbddnaa
open Go.RowKit

abbrev OwnC (w : World) (base : Nat) (v : Value) (n : Nat) (l : List Chg) : Prop := OwnL chgCells Chg.val (fun c => okKy c.key) 6 53 w base v n l
theorem chg_info : (Try.prog.info? 53).map (fun i => (i.zero.map (·.cells.size), i.size, i.bytes)) = some (some 6, 6, 72) := by kernel_rfl
theorem chg_info' : ∃ i z, Try.prog.info? 53 = some i ∧ i.zero = some z ∧ i.size = 6 ∧ i.bytes = 72 ∧ z.cells.size = 6 := by
  obtain ⟨i, hi, he⟩ := Option.map_eq_some_iff.1 chg_info
  simp only [Prod.mk.injEq] at he
  obtain ⟨z, hz, hz5⟩ := Option.map_eq_some_iff.1 he.1
  exact ⟨i, z, hi, hz, he.2.1, he.2.2, hz5⟩
theorem valB_own_row {e : TypeId} {w : World} {base : Nat} {v : Value} {x : List UInt8} {row : Option Nat} (h : OwnB e w base v x) (hr : ∀ k, row = some k → k < base) : ValB w row v x := by
  obtain ⟨A, c, hv, hrv, l1, l2, l3⟩ := h.slice
  refine ⟨A, c, hv, hrv, l1, l2, fun ad e1 hn he => ?_⟩
  have h1 := h.blk (l3 ad e1).symm
  have h2 := hr _ he.symm
  omega
def RecGetEnd (w : World) (r : List Chg × Nat) (e : Ending) (w' : World) : Prop :=
  ∃ v, e = .returned (.tuple #[v, .int .i64 (r.2 : Int)]) ∧ OwnC w' w.heap.size v r.1.length r.1 ∧ Below w.heap.size w w'

set_option maxRecDepth 100000 in
set_option maxHeartbeats 2000000 in
theorem recGet_any (w : World) (A : Option Addr) (c : Nat) (xs : List UInt8) (hr : RV w A (bv xs)) (hx : xs.length ≤ 140737488355328) :
    Calls Try.prog 11 #[.slice A xs.length c] w (RecGetEnd w (getRecS xs)) := by
  have HR := Lib.hid hr
  clear hr
  obtain ⟨ii, iz, hii, hiz, hi1, hi2, hi3⟩ := chg_info'
  cases xs with
  | nil =>
    go_enter Try.func11, Try.ntmps11
    go_wp2_with fail
    refine (new_any w A c [] HR.out hx).mono ?_
    rintro e w1 ⟨g, h, rfl, hrd, hb1, hg1, hg2, hh⟩
    have H1 := Lib.hid (And.intro (rd_alloc hrd (.cells #[.pointer (some ⟨g, 0, none⟩)] 67)) hb1)
    clear hrd hb1 hh
    go_wp2_with fail
    refine (take_any (s := 1) H1.out.1 (.inl rfl)).mono ?_
    rintro e w2 ⟨rfl, hr2, hg3⟩
    rw [show takeS (some []) 1 = (0, 4, none) from rfl]
    dsimp only
    have hbw : Below w.heap.size w w2 := (H1.out.2.alloc H1.out.2.size _).grown hg3 (by have := H1.out.2.size; simp; omega) (fun k e => by injection e with e; omega)
    have H2 := Lib.hid hbw
    clear hr2 hg3 hbw
    go_wp2_with fail
    go_ret2
    exact ⟨_, rfl, OwnL.nil _ _ _, H2.out⟩
  | cons f r =>
    by_cases h0 : f.toNat = 0
    · go_enter Try.func11, Try.ntmps11
      go_wp2_with fail
      refine (new_any w A c (f :: r) HR.out hx).mono ?_
      rintro e w1 ⟨g, h, rfl, hrd, hb1, hg1, hg2, hh⟩
      have H1 := Lib.hid (And.intro (rd_alloc hrd (.cells #[.pointer (some ⟨g, 0, none⟩)] 67)) hb1)
      clear hrd hb1 hh
      go_wp2_with fail
      refine (take_any (s := 1) H1.out.1 (.inl rfl)).mono ?_
      rintro e w2 ⟨rfl, hr2, hg3⟩
      rw [show takeS (some (f :: r)) 1 = (0, 0, some r) by simp [takeS, leval, h0]]
      dsimp only
      have hbw : Below w.heap.size w w2 := (H1.out.2.alloc H1.out.2.size _).grown hg3 (by have := H1.out.2.size; simp; omega) (fun k e => by injection e with e; omega)
      have hfin : getRecS (f :: r) = ([], 5) := by unfold getRecS; dsimp only; rw [if_pos h0]
      have H2 := Lib.hid (And.intro hbw hfin)
      clear hr2 hg3 hbw hfin h0
      go_wp2_with fail
      go_ret2
      rw [H2.out.2]
      exact ⟨_, rfl, OwnL.nil _ _ _, H2.out.1⟩
    · go_enter Try.func11, Try.ntmps11
      go_wp2_with fail
      refine (new_any w A c (f :: r) HR.out hx).mono ?_
      rintro e w1 ⟨g, h, rfl, hrd, hb1, hg1, hg2, hh⟩
      have ht : takeS (some (f :: r)) 1 = (f.toNat, 0, some r) := by simp [takeS, leval]
      have hf := f.toNat_lt
      have HT := Lib.hid ht
      have hR1 := Blk.new w1 67 #[.pointer (some ⟨g, 0, none⟩)]
      have H1 := Lib.hid (And.intro (rd_alloc hrd (.cells #[.pointer (some ⟨g, 0, none⟩)] 67)) (And.intro hb1 (And.intro hh hR1)))
      clear ht hrd hb1 hh hR1
      go_wp2_with fail
      refine (take_any (s := 1) H1.out.1 (.inl rfl)).mono ?_
      rintro e w2 ⟨rfl, hr2, hg3⟩
      rw [HT.out] at hr2 ⊢
      dsimp only at hr2 ⊢
      have hB2 := H1.out.2.2.2.grown hg3 (fun e => by injection e with e; omega)
      have hbw : Below w.heap.size w w2 := (H1.out.2.1.alloc H1.out.2.1.size _).grown hg3 (by have := H1.out.2.1.size; simp; omega) (fun k e => by injection e with e; omega)
      have c0 := hB2.cell 0
      simp at c0
      have hs2 := hB2.lt
      have H2 := Lib.hid (And.intro hr2 (And.intro hB2 hbw))
      clear hr2 hB2 hbw hg3
      have hne : ((f.toNat : Int) == 0) = false := beq_eq_false_iff_ne.2 (by omega)
      obtain ⟨F, hF⟩ : ∃ F, f.toNat = F := ⟨_, rfl⟩
      have hrec : getRecS (f :: r) = if (getsGo F (some r)).2.1 ≠ 0 then ([], (getsGo F (some r)).2.1) else if 0 < leftS (getsGo F (some r)).2.2 then ([], 5) else ((getsGo F (some r)).1, 0) := by
        unfold getRecS
        dsimp only
        rw [if_neg h0, hF]
      rw [hF] at hf hne ⊢
      have HRC := Lib.hid hrec
      clear hrec hF h0
      go_wp2_with fail
      go_loopg [7, 27] F (fun k v i wr => ∃ (j : Nat) (ps : List (Chg × Value)) (st : Option (List UInt8)), j + k = F ∧ i = .int .u64 j ∧ OwnPs chgCells Chg.val (fun c => okKy c.key) 6 53 wr (w1.heap.size + 1) v j ps ∧
        (∀ p ∈ ps, ValB wr (some g) p.2 p.1.val) ∧ Rd wr g h st ∧ Blk wr w1.heap.size 67 #[.pointer (some ⟨g, 0, none⟩)] ∧ Below w.heap.size w wr ∧ addGo (ps.map (·.1)) (getsGo k st) = getsGo F (some r))
      case atStart => exact ⟨0, [], some r, by omega, rfl, OwnPs.nil _ _ _, (fun _ hp => by cases hp), H2.out.1, H2.out.2.1, H2.out.2.2, addGo_nil _ _⟩
      case round =>
        obtain ⟨j, ps, st, hj, rfl, ho, hvs, hrd, hbk, hb, heq⟩ := hrel
        have HX := Lib.hid (And.intro ho (And.intro hvs (And.intro hrd (And.intro hbk (And.intro hb heq)))))
        have e0 := hbk.cell 0
        have hsr := hbk.lt
        simp at e0
        clear ho hvs hrd hbk hb heq
        by_cases hlt : j < F
        · obtain ⟨k', rfl⟩ : ∃ k', gk = k' + 1 := ⟨gk - 1, by omega⟩
          have hnm := oneS_name st
          have hcd := oneS_code st getKeyS_code
          have hst1 := addGo_step (ps.map (·.1)) k' st
          have hst2 := addGo_no (ps.map (·.1)) k' st
          rw [HX.out.2.2.2.2.2] at hst1 hst2
          obtain ⟨q, hq⟩ : ∃ q, oneS st = q := ⟨_, rfl⟩
          rw [hq] at hnm hcd hst1 hst2
          have HQ := Lib.hid hq
          clear hq
          obtain ⟨⟨⟨ki, ka, ks, kc⟩, x, gn⟩, code, st'⟩ := q
          dsimp only at hnm hcd hst1 hst2
          have HS := Lib.hid (And.intro hst1 (And.intro hst2 hnm))
          clear hst1 hst2 hnm
          go_wp2_with fail
          refine (one_any HX.out.2.2.1 (fun k hk => by have := (H1.out.2.2.1 k hk).2; omega)).mono ?_
          rintro e w3 ⟨v3, rfl, ho3, hr3, hg4⟩
          rw [HQ.out] at ho3 hr3 ⊢
          dsimp only [chgCells] at ho3 hr3 ⊢
          obtain ⟨A3, d3, rfl, _, _, _, _⟩ := ho3.slice
          have hsz := hg4.size
          have H3 := Lib.hid (And.intro ho3 (And.intro hr3 (And.intro hg4 (HX.out.2.2.2.2.1.grown hg4 HX.out.2.2.2.2.1.size (fun k e => by injection e with e; omega)))))
          clear ho3 hr3 hg4
          by_cases hcode : code = 0
          · subst hcode
            have hstep := HS.out.1 rfl
            obtain ⟨W, hW⟩ : ∃ W, w3.alloc (.cells #[.int .i64 ki, .int .u8 (ka.toNat : Int), .string ks, .int .i64 kc, .slice A3 x.length d3, .bool gn] 53) = W := ⟨_, rfl⟩
            have hbW : Below w3.heap.size w3 W := by rw [← hW]; exact (Below.refl _ _).alloc (Nat.le_refl _) _
            have hkW : Blk W w3.heap.size 53 #[.int .i64 ki, .int .u8 (ka.toNat : Int), .string ks, .int .i64 kc, .slice A3 x.length d3, .bool gn] := by rw [← hW]; exact Blk.new _ _ _
            have hrow : ∀ k, u7.ownBlock = some k → w1.heap.size + 1 ≤ k ∧ k < wr.heap.size := fun k hk => OwnPs.blk HX.out.1 hk
            have hoW : OwnPs chgCells Chg.val (fun c => okKy c.key) 6 53 W (w1.heap.size + 1) u7 j ps := by
              refine (OwnPs.kept HX.out.1 H3.out.2.2.1 (.inr fun e => ?_) HX.out.2.1).below hbW
              have := (hrow g e).1
              omega
            have hvW : ∀ p ∈ ps, ValB W (some g) p.2 p.1.val := fun p hp => ((HX.out.2.1 p hp).grown H3.out.2.2.1).below hbW
            have hu1 : ValB W u7.ownBlock (.slice A3 x.length d3) x := (valB_own_row H3.out.1 (fun k hk => (hrow k hk).2)).below hbW
            have hu2 : ValB W (some g) (.slice A3 x.length d3) x := (valB_own_row H3.out.1 (fun k hk => by injection hk with hk; omega)).below hbW
            have hrW : Rd W g h st' := H3.out.2.1.below hbW
            have hbwW : Below w.heap.size w W := below_then H3.out.2.2.2 H3.out.2.2.2.size hbW
            have hrdW : Blk W w1.heap.size 67 #[.pointer (some ⟨g, 0, none⟩)] := (HX.out.2.2.2.1.grown H3.out.2.2.1 (fun e => by injection e with e; omega)).below hbW (by omega)
            have hszW : w1.heap.size + 1 ≤ W.heap.size := by have := hbW.size; omega
            have y0 := hkW.cell 0
            have y1 := hkW.cell 1
            have y2 := hkW.cell 2
            have y3 := hkW.cell 3
            have y4 := hkW.cell 4
            have y5 := hkW.cell 5
            simp at y0 y1 y2 y3 y4 y5
            have HW := Lib.hid (And.intro hoW (And.intro hvW (And.intro hu1 (And.intro hu2 (And.intro hrW (And.intro hbwW (And.intro hrdW (And.intro hrow hstep))))))))
            clear hbW hkW hoW hvW hu1 hu2 hrW hbwW hrdW hstep hrow
            subst hW
            go_wp2_with (at_builtin; refine wpList_appP1H (cell := chgCells) (val := Chg.val) (ok := fun c => okKy c.key) (sz := 6) _ rfl _ _ 31 rfl (w1.heap.size + 1) 53 ii iz 72 Try.underlying31 hii hiz hi1 hi2 hi3 (by decide) chg_len chg_one u7 j ps rfl HW.out.1 ⟨⟨ki, ka, ks, kc⟩, x, gn⟩ (.slice A3 x.length d3) (w3.heap.size + 1) (alloc_sz _ _) rfl HS.out.2.2 HW.out.2.2.1 _ rfl ?_ ?_ ?_ ?_)
            · unfold maxLen; omega
            · omega
            · omega
            intro v4 w4 ho4 hg5 hv4
            have hrow4 := HW.out.2.2.2.2.2.2.2.1
            have hbw4 : Below w.heap.size w w4 := HW.out.2.2.2.2.2.1.grown hg5 HW.out.2.2.2.2.2.1.size (fun k e => by have := (hrow4 k e).1; have := H1.out.2.1.size; omega)
            have hvs4 : ∀ p ∈ ps ++ [((⟨⟨ki, ka, ks, kc⟩, x, gn⟩ : Chg), Value.slice A3 x.length d3)], ValB w4 (some g) p.2 p.1.val := by
              intro p hp
              rcases List.mem_append.1 hp with hp | hp
              · exact (HW.out.2.1 p hp).kept (HW.out.1.2.2 p hp).2 hg5
              · rw [List.mem_singleton] at hp
                subst hp
                exact HW.out.2.2.2.1.kept HW.out.2.2.1 hg5
            have hr4 : Rd w4 g h st' := HW.out.2.2.2.2.1.keep fun k hk hkk => hg5.block k hk fun e => by
              have h1 := (hrow4 k e.symm).1
              rcases hkk with rfl | hkk
              · omega
              · have := (H1.out.2.2.1 k hkk.symm).2
                omega
            have hb4 := HW.out.2.2.2.2.2.2.1.grown hg5 (fun e => by have := (hrow4 _ e.symm).1; omega)
            have H4 := Lib.hid (And.intro ho4 (And.intro hvs4 (And.intro hr4 (And.intro hb4 (And.intro hbw4 HW.out.2.2.2.2.2.2.2.2)))))
            clear ho4 hvs4 hr4 hb4 hbw4 hg5 hv4 hrow4
            go_wp2_with fail
            go_roundg k'
            case measure => omega
            case rel => exact ⟨j + 1, _, st', by omega, by go_num, H4.out.1, H4.out.2.1, H4.out.2.2.1, H4.out.2.2.2.1, H4.out.2.2.2.2.1, by rw [List.map_append]; exact H4.out.2.2.2.2.2.symm⟩
          · have hne1 : ((code : Int) != 0) = true := by simp; omega
            have hfin : getRecS (f :: r) = ([], code) := by
              have h1 := HS.out.2.1 hcode
              rw [HRC.out, h1]
              dsimp only
              rw [if_pos hcode]
            have HF := Lib.hid hfin
            clear hfin hcode
            go_wp2_with fail
            go_ret2
            rw [HF.out]
            exact ⟨_, rfl, OwnL.nil _ _ _, H3.out.2.2.2.alloc H3.out.2.2.2.size _⟩
        · obtain rfl : j = F := by omega
          obtain rfl : gk = 0 := by omega
          have hge : ¬ (j : Int) < (j : Int) := by omega
          have hgo : getsGo j (some r) = (ps.map (·.1), 0, st) := by rw [← HX.out.2.2.2.2.2]; unfold addGo getsGo; simp
          by_cases hl : 0 < leftS st
          · have hfin : getRecS (f :: r) = ([], 5) := by rw [HRC.out, hgo]; simp [hl]
            have hl' : 0 < (leftS st : Int) := by omega
            have HF := Lib.hid hfin
            clear hfin hl hgo
            go_wp2_with (go_at_call 32; refine (left_any HX.out.2.2.1).mono ?_; rintro e w4 ⟨rfl, rfl⟩)
            go_ret2
            rw [HF.out]
            exact ⟨_, rfl, OwnL.nil _ _ _, HX.out.2.2.2.2.1⟩
          · have hfin : getRecS (f :: r) = (ps.map (·.1), 0) := by rw [HRC.out, hgo]; simp; omega
            have hl' : ¬ 0 < (leftS st : Int) := by omega
            have HF := Lib.hid hfin
            clear hfin hl hgo
            go_wp2_with (go_at_call 32; refine (left_any HX.out.2.2.1).mono ?_; rintro e w4 ⟨rfl, rfl⟩)
            go_ret2
            rw [HF.out]
            have ho := OwnPs.list HX.out.1
            have hlen : (ps.map (·.1)).length = j := by rw [List.length_map]; exact HX.out.1.1
            have ho2 : OwnC wr w.heap.size u7 (ps.map (·.1)).length (ps.map (·.1)) := by rw [hlen]; exact ho.lower (by have := H1.out.2.1.size; omega)
            exact ⟨_, rfl, ho2, HX.out.2.2.2.2.1⟩
end Go.Proofs.Ytckpgbkabbddnaa
