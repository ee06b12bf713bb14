import Derived.Test.YtegoeagmadhpgaaMGet
import Derived.Test.YtegoeagmadhpgaaDKeyGM
import Derived.Test.YtegoeagmadhpgaaMRef
import Derived.Test.YtegoeagmadhpgaaKeyEM
set_option linter.unusedVariables false
set_option linter.unusedSimpArgs false
/- Layer 15, the document's GetLeaf: contract. -/
namespace Go.Proofs.Ytegoeagmadhpgaa
open Go.RowKit

theorem rdr_any {w : World} {A : Option Addr} {n c : Nat} {xs : List UInt8} (hn : xs.length = n) (hr : RV w A (bv xs)) (hl : n ≤ c) (hc : c ≤ maxLen) (hA : ∀ ad, A = some ad → ad.block < w.heap.size) :
    RdR (w.alloc (.cells #[.slice A n c, .bool false] 58)) w.heap.size (A.map (·.block)) (some xs) := by
  subst hn
  refine ⟨fun hk => ?_, xs, false, A, c, Blk.new _ _ _, hr.alloc _, hl, hc, fun ad e => by rw [e]; rfl, rfl⟩
  cases A with
  | none => cases hk
  | some ad =>
    have := hA ad rfl
    simp at hk
    omega
theorem valB_ownG {e : TypeId} {w : World} {base : Nat} {v : Value} {x : List UInt8} {row : Option Nat} (h : OwnB e w base v x) (hr : ∀ k, row = some k → k < base) : ValB w row v x := by
  obtain ⟨A, c, hv, hrv, l1, l2, l3⟩ := h.slice
  refine ⟨A, c, hv, hrv, l1, l2, fun ad e1 hn he => ?_⟩
  have h1 := h.blk (l3 ad e1).symm
  have h2 := hr _ he.symm
  omega
def DLsEnd (w : World) (r : List Fct × Nat) (e : Ending) (w' : World) : Prop :=
  ∃ v, e = .returned (.tuple #[v, .int .i64 (r.2 : Int)]) ∧ OwnL fctCells Fct.val (fun c => okKy c.key) 5 32 w' w.heap.size v r.1.length r.1 ∧ Below w.heap.size w w'

set_option maxRecDepth 100000 in
set_option maxHeartbeats 4000000 in
theorem dGetLeaf_any (w : World) (A : Option Addr) (n c : Nat) (xs : List UInt8) (hn : xs.length = n) (hr : RV w A (bv xs)) (hl : n ≤ c) (hc : c ≤ maxLen) (hA : ∀ ad, A = some ad → ad.block < w.heap.size) :
    Calls Try.prog 11 #[.slice A n c] w (DLsEnd w (getLeafS xs)) := by
  obtain ⟨ii, iz, hii, hiz, hi1, hi2, hi3⟩ := fct_info'
  obtain ⟨R, hR⟩ : ∃ R, getLeafS xs = R := ⟨_, rfl⟩
  rw [hR]
  have HRC := Lib.hid hR
  have hrd := rdr_any hn hr hl hc hA
  have hh : ∀ k, (A.map (·.block)) = some k → k < w.heap.size := fun k hk => by
    obtain ⟨ad, e, rfl⟩ := Option.map_eq_some_iff.1 hk
    exact hA ad e
  have hbB := (Below.refl w.heap.size w).alloc (Nat.le_refl _) (.cells #[.slice A n c, .bool false] 58)
  generalize A.map (·.block) = h at hrd hh
  have H1 := Lib.hid (And.intro hrd (And.intro hbB hh))
  clear hR hn hr hrd hh hbB hA
  go_enter Try.func11, Try.ntmps11
  go_wp2_with fail
  refine (rtake_any (s := 1) H1.out.1 (.inl rfl)).mono ?_
  rintro e w2 ⟨rfl, hr2, hg2⟩
  have hbw : Below w.heap.size w w2 := H1.out.2.1.grown hg2 H1.out.2.1.size (fun k e => by injection e with e; omega)
  have hs2 : w.heap.size + 1 ≤ w2.heap.size := by have := hg2.size; rw [alloc_sz] at this; omega
  have H2 := Lib.hid (And.intro hr2 hbw)
  clear hr2 hbw hg2
  cases xs with
  | nil =>
    rw [show takeS (some []) 1 = (0, 4, none) from rfl]
    dsimp only
    have HF := Lib.hid (show R = ([], 4) by rw [← HRC.out]; rfl)
    go_wp2_with fail
    go_ret2
    rw [HF.out]
    exact ⟨_, rfl, OwnL.nil _ _ _, H2.out.2⟩
  | cons f r =>
    have ht : takeS (some (f :: r)) 1 = (f.toNat, 0, some r) := by simp [takeS, leval]
    rw [ht] at H2 ⊢
    dsimp only at H2 ⊢
    have hf := f.toNat_lt
    clear ht
    by_cases h0 : f.toNat = 0
    · have t0 : ((f.toNat : Int) == 0) = true := by rw [h0]; rfl
      have HF := Lib.hid (show R = ([], 5) by rw [← HRC.out]; unfold getLeafS lsS; dsimp only; rw [if_pos h0])
      clear h0
      go_wp2_with fail
      go_ret2
      rw [HF.out]
      exact ⟨_, rfl, OwnL.nil _ _ _, H2.out.2⟩
    · have hne : ((f.toNat : Int) == 0) = false := beq_eq_false_iff_ne.2 (by omega)
      obtain ⟨F, hF⟩ : ∃ F, f.toNat = F := ⟨_, rfl⟩
      have hrec : R = if (lsGo fctS Fct.key F none (some r)).2.1 ≠ 0 then ([], (lsGo fctS Fct.key F none (some r)).2.1) else if 0 < leftS (lsGo fctS Fct.key F none (some r)).2.2 then ([], 5) else ((lsGo fctS Fct.key F none (some r)).1, 0) := by
        rw [← HRC.out]
        unfold getLeafS lsS
        dsimp only
        rw [if_neg h0, hF]
      rw [hF] at hf hne ⊢
      have HRC := Lib.hid hrec
      clear hrec hF h0
      go_wp2_with fail
      go_loopg [7, 8] F (fun k v i wr => ∃ (j : Nat) (ps : List (Fct × Value)) (st : Option (List UInt8)), j + k = F ∧ i = .int .u64 j ∧ OwnPs fctCells Fct.val (fun c => okKy c.key) 5 32 wr (w.heap.size + 1) v j ps ∧
        (∀ p ∈ ps, ValB wr (some w.heap.size) p.2 p.1.val) ∧ RdR wr w.heap.size h st ∧ Below w.heap.size w wr ∧ w.heap.size + 1 ≤ wr.heap.size ∧ addG (ps.map (·.1)) (lsGo fctS Fct.key k (lastK Fct.key (ps.map (·.1))) st) = lsGo fctS Fct.key F none (some r))
      case atStart => exact ⟨0, [], some r, by omega, rfl, OwnPs.nil _ _ _, (fun _ hp => by cases hp), H2.out.1, H2.out.2, hs2, addG_nil _ _ _⟩
      case round =>
        obtain ⟨j, ps, st, hj, rfl, ho, hvs, hrd, hb, hsz, heq⟩ := hrel
        have HX := Lib.hid (And.intro ho (And.intro hvs (And.intro hrd (And.intro hb heq))))
        clear ho hvs hrd hb heq
        by_cases hlt : j < F
        · obtain ⟨k', rfl⟩ : ∃ k', gk = k' + 1 := ⟨gk - 1, by omega⟩
          have hnm := getKeyS_name st
          obtain ⟨q, hq⟩ : ∃ q, getKeyS st = q := ⟨_, rfl⟩
          have HG := dGetKey_any HX.out.2.2.1 (fun k hk => by have := H1.out.2.2 k hk; omega)
          unfold DGetKeyEnd at HG
          rw [hq] at hnm HG
          have HQ := Lib.hid hq
          have HG := Lib.hid HG
          clear hq
          obtain ⟨⟨ki, ka, ks, kc⟩, code, st1⟩ := q
          unfold Ky.val at HG
          dsimp only at hnm HG
          have HN := Lib.hid hnm
          clear hnm
          have hjI : (j : Int) < (F : Int) := by omega
          go_wp2_with fail
          refine HG.out.mono ?_
          rintro e w3 ⟨rfl, hr3, hg3⟩
          have hs3 := hg3.size
          have hb3 := HX.out.2.2.2.1.grown hg3 HX.out.2.2.2.1.size (fun k e => by injection e with e; omega)
          have hrow : ∀ k, u7.ownBlock = some k → w.heap.size + 1 ≤ k ∧ k < wr.heap.size := fun k hk => OwnPs.blk HX.out.1 hk
          have hnr : u7.ownBlock = none ∨ u7.ownBlock ≠ some w.heap.size := .inr fun e => by have := (hrow _ e).1; omega
          have ho3 := OwnPs.kept HX.out.1 hg3 hnr HX.out.2.1
          have hv3 : ∀ p ∈ ps, ValB w3 (some w.heap.size) p.2 p.1.val := fun p hp => (HX.out.2.1 p hp).grown hg3
          have H3 := Lib.hid (And.intro ho3 (And.intro hv3 (And.intro hr3 (And.intro hb3 (And.intro hrow hnr)))))
          clear hr3 hb3 hv3 ho3 hg3 hrow hnr
          by_cases hcode : code ≠ 0
          · have hne1 : ((code : Int) != 0) = true := by simp; omega
            have hfin : R = ([], code) := by
              have h2 : (fctS st).2.1 = code := by rw [fctS_no (by rw [HQ.out]; exact hcode), HQ.out]
              have h1 := addG_no (one := fctS) (key := Fct.key) (ps.map (·.1)) k' (lastK Fct.key (ps.map (·.1))) st (by rw [h2]; exact hcode)
              rw [HX.out.2.2.2.2, h2] at h1
              rw [HRC.out, h1, if_pos hcode]
            have HF := Lib.hid hfin
            clear hfin hcode
            go_wp2_with fail
            go_ret2
            rw [HF.out]
            exact ⟨_, rfl, OwnL.nil _ _ _, H3.out.2.2.2.1.alloc H3.out.2.2.2.1.size _⟩
          · obtain rfl : code = 0 := by omega
            have htk : fctS st = tkF ⟨ki, ka, ks, kc⟩ st1 := by rw [fctS_tk (by rw [HQ.out]), HQ.out]
            have HTK := Lib.hid htk
            clear htk hcode
            obtain ⟨AA, cc, rfl, hin, hcc1, hcc2, hAA⟩ := OwnL.listIn fct_len (OwnPs.list H3.out.1)
            have hbA := (Below.refl w3.heap.size w3).alloc (Nat.le_refl _) (.cells #[.int .i64 ki, .int .u8 (ka.toNat : Int), .string ks, .int .i64 kc] 30)
            have hKA := Blk.new w3 30 #[.int .i64 ki, .int .u8 (ka.toNat : Int), .string ks, .int .i64 kc]
            have HA := Lib.hid (And.intro (OwnPs.below H3.out.1 hbA) (And.intro (fun p hp => (H3.out.2.1 p hp).below hbA : ∀ p ∈ ps, ValB _ (some w.heap.size) p.2 p.1.val) (And.intro (H3.out.2.2.1.below hbA) (And.intro (below_then H3.out.2.2.2.1 H3.out.2.2.2.1.size hbA) hKA))))
            clear hbA hKA hin hAA
            obtain ⟨q2, hq2⟩ : ∃ q, rowS st1 = q := ⟨_, rfl⟩
            have HRW := rrow_any HA.out.2.2.1
            unfold RRowEnd at HRW
            rw [hq2] at HRW
            have HQ2 := Lib.hid hq2
            have HRW := Lib.hid HRW
            clear hq2
            obtain ⟨x, rc, st2⟩ := q2
            have htk : fctS st = if rc ≠ 0 then (Fct.zero, rc, st2) else if x.length = 0 then (Fct.zero, 5, st2) else (⟨⟨ki, ka, ks, kc⟩, x⟩, 0, st2) := by
              rw [HTK.out]
              unfold tkF
              rw [HQ2.out]
            have HT2 := Lib.hid htk
            clear htk
            dsimp only at HRW
            go_wp2_with fail
            refine HRW.out.mono ?_
            rintro e w4 ⟨v4, rfl, ho4, hr4, hg4⟩
            obtain ⟨A4, c4, rfl, _, hl4, hm4, _⟩ := ho4.slice
            have hs4 : w3.heap.size + 1 ≤ w4.heap.size := by have := hg4.size; simpa using this
            have hK4 := HA.out.2.2.2.2.grown hg4 (fun e => by injection e with e; omega)
            have hb4 := HA.out.2.2.2.1.grown hg4 HA.out.2.2.2.1.size (fun k e => by injection e with e; omega)
            have ho4' := OwnPs.kept HA.out.1 hg4 H3.out.2.2.2.2.2 HA.out.2.1
            have hv4 : ∀ p ∈ ps, ValB w4 (some w.heap.size) p.2 p.1.val := fun p hp => (HA.out.2.1 p hp).grown hg4
            have hu1 : ValB w4 (Value.slice AA j cc).ownBlock (.slice A4 x.length c4) x := valB_ownG ho4 (fun k hk => by have := (H3.out.2.2.2.2.1 k hk).2; simp; omega)
            have hu2 : ValB w4 (some w.heap.size) (.slice A4 x.length c4) x := valB_ownG ho4 (fun k hk => by injection hk with hk; simp; omega)
            obtain ⟨L, hL⟩ : ∃ L, x.length = L := ⟨_, rfl⟩
            rw [hL] at hl4 hu1 hu2 ⊢
            obtain ⟨kb, hkb⟩ : ∃ kb, w3.heap.size = kb := ⟨_, rfl⟩
            rw [hkb] at hK4 ⊢
            have HKB' := Lib.hid hkb
            have hkb4 : kb < w4.heap.size := by omega
            have hkr : wr.heap.size ≤ kb ∧ kb ≤ w3.heap.size := by omega
            clear hkb
            have H4 := Lib.hid (And.intro ho4' (And.intro hv4 (And.intro hr4 (And.intro hb4 (And.intro hu1 (And.intro hu2 (And.intro hK4 hL)))))))
            clear ho4 ho4' hv4 hr4 hb4 hu1 hu2 hK4 hg4
            by_cases hcode2 : rc ≠ 0
            · have hne2 : ((rc : Int) != 0) = true := by simp; omega
              have hfin : R = ([], rc) := by
                have h2 : (fctS st).2.1 = rc := by rw [HT2.out, if_pos hcode2]
                have h1 := addG_no (one := fctS) (key := Fct.key) (ps.map (·.1)) k' (lastK Fct.key (ps.map (·.1))) st (by rw [h2]; exact hcode2)
                rw [HX.out.2.2.2.2, h2] at h1
                rw [HRC.out, h1, if_pos hcode2]
              have HF := Lib.hid hfin
              clear hfin hcode2
              go_wp2_with fail
              go_ret2
              rw [HF.out]
              exact ⟨_, rfl, OwnL.nil _ _ _, H4.out.2.2.2.1⟩
            · obtain rfl : rc = 0 := by omega
              clear hcode2
              by_cases hx0 : L = 0
              · have tx : ((L : Int) == 0) = true := by rw [hx0]; rfl
                have tx' : (L == 0) = true := by rw [hx0]; rfl
                have hfin : R = ([], 5) := by
                  have h2 : (fctS st).2.1 = 5 := by rw [HT2.out, if_neg (by simp), if_pos (by rw [H4.out.2.2.2.2.2.2.2]; exact hx0)]
                  have h1 := addG_no (one := fctS) (key := Fct.key) (ps.map (·.1)) k' (lastK Fct.key (ps.map (·.1))) st (by rw [h2]; decide)
                  rw [HX.out.2.2.2.2, h2] at h1
                  rw [HRC.out, h1, if_pos (by decide)]
                have HF := Lib.hid hfin
                clear hfin hx0
                go_wp2_with fail
                have m0 : ∀ p : InC (fun w' => Below w4.heap.size w4 w'), p.w.cell? ⟨kb, 0, none⟩ = some (.int .i64 ki) := fun p => by rw [(H4.out.2.2.2.2.2.2.1.below p.h (by omega)).cell]; rfl
                have m1 : ∀ p : InC (fun w' => Below w4.heap.size w4 w'), p.w.cell? ⟨kb, 1, none⟩ = some (.int .u8 (ka.toNat : Int)) := fun p => by rw [(H4.out.2.2.2.2.2.2.1.below p.h (by omega)).cell]; rfl
                have m2 : ∀ p : InC (fun w' => Below w4.heap.size w4 w'), p.w.cell? ⟨kb, 2, none⟩ = some (.string ks) := fun p => by rw [(H4.out.2.2.2.2.2.2.1.below p.h (by omega)).cell]; rfl
                have m3 : ∀ p : InC (fun w' => Below w4.heap.size w4 w'), p.w.cell? ⟨kb, 3, none⟩ = some (.int .i64 kc) := fun p => by rw [(H4.out.2.2.2.2.2.2.1.below p.h (by omega)).cell]; rfl
                have hinh : Nonempty (InC (fun w' => Below w4.heap.size w4 w')) := ⟨⟨w4, Below.refl _ _⟩⟩
                refine wp_region_class (fun w' => Below w4.heap.size w4 w') (by kernel_rfl) (by kernel_rfl) (Below.refl _ _).drew ?_
                repeat (go_big_quiet_step (fail))
                refine wpQuiet_nil ?_
                rintro _ ⟨p4', rfl⟩
                clear hinh m0 m1 m2 m3
                have hb6 := p4'.h
                have hs6 := hb6.size
                generalize p4'.w = w6 at hb6 hs6 ⊢
                go_wp2_with fail
                go_ret2
                rw [HF.out]
                exact ⟨_, rfl, OwnL.nil _ _ _, below_then H4.out.2.2.2.1 H4.out.2.2.2.1.size hb6⟩
              · have tx : ((L : Int) == 0) = false := beq_eq_false_iff_ne.2 (by omega)
                have tx' : (L == 0) = false := beq_eq_false_iff_ne.2 hx0
                have hst : fctS st = (⟨⟨ki, ka, ks, kc⟩, x⟩, 0, st2) := by rw [HT2.out, if_neg (by simp), if_neg (by rw [H4.out.2.2.2.2.2.2.2]; exact hx0)]
                have HST := Lib.hid hst
                clear hst
                rcases Nat.eq_zero_or_pos j with hj0 | hj0
                · have q3 : decide (0 < (j : Int)) = false := decide_eq_false (by omega)
                  have q4 : decide (0 < j) = false := decide_eq_false (by omega)
                  have hos : stepOk (lastK Fct.key (ps.map (·.1))) (⟨ki, ka, ks, kc⟩ : Ky) := by
                    have h1 := H4.out.1.1
                    have : ps = [] := List.eq_nil_of_length_eq_zero (by omega)
                    rw [this]
                    intro q h
                    cases h
                  have HJ := Lib.hid hj0
                  clear hj0
                  have hstep := addG_step (one := fctS) (key := Fct.key) (ps.map (·.1)) k' st (by rw [HST.out]) (by rw [HST.out]; exact hos)
                  rw [HX.out.2.2.2.2, HST.out] at hstep
                  have HSP := Lib.hid hstep
                  clear hstep hos
                  go_wp2_with fail
                  have m0 : ∀ p : InC (fun w' => Below w4.heap.size w4 w'), p.w.cell? ⟨kb, 0, none⟩ = some (.int .i64 ki) := fun p => by rw [(H4.out.2.2.2.2.2.2.1.below p.h (by omega)).cell]; rfl
                  have m1 : ∀ p : InC (fun w' => Below w4.heap.size w4 w'), p.w.cell? ⟨kb, 1, none⟩ = some (.int .u8 (ka.toNat : Int)) := fun p => by rw [(H4.out.2.2.2.2.2.2.1.below p.h (by omega)).cell]; rfl
                  have m2 : ∀ p : InC (fun w' => Below w4.heap.size w4 w'), p.w.cell? ⟨kb, 2, none⟩ = some (.string ks) := fun p => by rw [(H4.out.2.2.2.2.2.2.1.below p.h (by omega)).cell]; rfl
                  have m3 : ∀ p : InC (fun w' => Below w4.heap.size w4 w'), p.w.cell? ⟨kb, 3, none⟩ = some (.int .i64 kc) := fun p => by rw [(H4.out.2.2.2.2.2.2.1.below p.h (by omega)).cell]; rfl
                  have hinh : Nonempty (InC (fun w' => Below w4.heap.size w4 w')) := ⟨⟨w4, Below.refl _ _⟩⟩
                  refine wp_region_class (fun w' => Below w4.heap.size w4 w') (by kernel_rfl) (by kernel_rfl) (Below.refl _ _).drew ?_
                  repeat (go_big_quiet_step (fail))
                  refine wpQuiet_nil ?_
                  rintro _ ⟨p4', rfl⟩
                  clear hinh m0 m1 m2 m3
                  have hb6 := p4'.h
                  have hs6 := hb6.size
                  generalize p4'.w = w6 at hb6 hs6 ⊢
                  have y0 : w6.cell? ⟨kb, 0, none⟩ = some (.int .i64 ki) := by rw [(H4.out.2.2.2.2.2.2.1.below hb6 (by omega)).cell]; rfl
                  have y1 : w6.cell? ⟨kb, 1, none⟩ = some (.int .u8 (ka.toNat : Int)) := by rw [(H4.out.2.2.2.2.2.2.1.below hb6 (by omega)).cell]; rfl
                  have y2 : w6.cell? ⟨kb, 2, none⟩ = some (.string ks) := by rw [(H4.out.2.2.2.2.2.2.1.below hb6 (by omega)).cell]; rfl
                  have y3 : w6.cell? ⟨kb, 3, none⟩ = some (.int .i64 kc) := by rw [(H4.out.2.2.2.2.2.2.1.below hb6 (by omega)).cell]; rfl
                  have hok : okKy (⟨ki, ka, ks, kc⟩ : Ky) := Nat.le_trans HN.out (by decide)
                  have H6 := Lib.hid (And.intro (OwnPs.below H4.out.1 hb6) (And.intro (fun p hp => (H4.out.2.1 p hp).below hb6 : ∀ p ∈ ps, ValB w6 (some w.heap.size) p.2 p.1.val) (And.intro (H4.out.2.2.1.below hb6) (And.intro (below_then H4.out.2.2.2.1 H4.out.2.2.2.1.size hb6) (And.intro (H4.out.2.2.2.2.1.below hb6) (And.intro (H4.out.2.2.2.2.2.1.below hb6) hok))))))
                  clear hb6 hok
                  go_wp2_with (at_builtin; refine wpList_appP1H (cell := fctCells) (val := Fct.val) (ok := fun c => okKy c.key) (sz := 5) w6 rfl _ _ 24 rfl (w.heap.size + 1) 32 ii iz 64 Try.underlying24 hii hiz hi1 hi2 hi3 (by decide) fct_len fct_one (.slice AA j cc) j ps rfl H6.out.1 ⟨⟨ki, ka, ks, kc⟩, x⟩ (.slice A4 L c4) w6.heap.size rfl rfl H6.out.2.2.2.2.2.2 H6.out.2.2.2.2.1 _ rfl ?_ ?_ ?_ ?_)
                  · unfold maxLen; omega
                  · omega
                  · omega
                  intro v7 w7 ho7 hg7 hv7
                  have hrow := H3.out.2.2.2.2.1
                  have hb7 : Below w.heap.size w w7 := H6.out.2.2.2.1.grown hg7 H6.out.2.2.2.1.size (fun k e => by have := (hrow k e).1; omega)
                  have hvs7 : ∀ p ∈ ps ++ [((⟨⟨ki, ka, ks, kc⟩, x⟩ : Fct), Value.slice A4 L c4)], ValB w7 (some w.heap.size) p.2 p.1.val := by
                    intro p hp
                    rcases List.mem_append.1 hp with hp | hp
                    · exact (H6.out.2.1 p hp).kept (H6.out.1.2.2 p hp).2 hg7
                    · rw [List.mem_singleton] at hp
                      subst hp
                      exact H6.out.2.2.2.2.2.1.kept H6.out.2.2.2.2.1 hg7
                  have hr7 : RdR w7 w.heap.size h st2 := H6.out.2.2.1.keep fun k hk hkk => hg7.block k hk fun e => by
                    have h1 := (hrow k e.symm).1
                    rcases hkk with rfl | hkk
                    · omega
                    · have := H1.out.2.2 k hkk.symm
                      omega
                  have hs7 := hg7.size
                  have H7 := Lib.hid (And.intro ho7 (And.intro hvs7 (And.intro hr7 hb7)))
                  clear ho7 hvs7 hr7 hb7 hg7 hv7 hrow y0 y1 y2 y3
                  go_wp2_with fail
                  go_roundg k'
                  case measure => omega
                  case rel => exact ⟨j + 1, _, st2, by omega, by go_num, H7.out.1, H7.out.2.1, H7.out.2.2.1, H7.out.2.2.2, by omega, by rw [List.map_append]; exact HSP.out.symm⟩
                · have q3 : decide (0 < (j : Int)) = true := decide_eq_true (by omega)
                  have q4 : decide (0 < j) = true := decide_eq_true (by omega)
                  obtain ⟨q, hq⟩ : ∃ q, j = q + 1 := ⟨j - 1, by omega⟩
                  have hwm : IntKind.i64.wrap ((j : Int) - 1) = (q : Int) := by rw [hq]; exact (IntWalk.i64_in _ (by omega)).trans (by omega)
                  have hmn : (q : Int) < (j : Int) := by omega
                  have hlen : (ps.map (·.1)).length = j := by rw [List.length_map]; exact H4.out.1.1
                  obtain ⟨x', hx'⟩ : ∃ x, (ps.map (·.1))[q]? = some x := ⟨_, List.getElem?_eq_getElem (by omega)⟩
                  obtain ⟨AA', cc', hAA', hin, _, _, _⟩ := OwnL.listIn fct_len (OwnPs.list H4.out.1)
                  injection hAA' with hA1 _ hA3
                  subst hA1 hA3
                  obtain ⟨okx, ad, B', d', hA', _, _, _, hblk', x0, x1, x2, x3, x4⟩ := FctsIn.at_ hin hx'
                  subst hA'
                  have hlast : lastK Fct.key (ps.map (·.1)) = some x'.key := by
                    unfold lastK
                    rw [List.getLast?_eq_getElem?, hlen, hq, Nat.add_sub_cancel, hx']
                    rfl
                  have HXX := Lib.hid (And.intro hlast (And.intro hblk' (And.intro x0 (And.intro x1 (And.intro x2 (And.intro x3 hq))))))
                  have HKB := Lib.hid (fun w => dBefore_any w x'.key ⟨ki, ka, ks, kc⟩ okx (Nat.le_trans HN.out (by decide)))
                  clear x0 x1 x2 x3 x4 hx' hq hlast hin hlen okx
                  obtain ⟨⟨xi, xa, xs', xc⟩, xv⟩ := x'
                  dsimp only at HXX
                  unfold Ky.val at HKB
                  dsimp only at HKB
                  by_cases hlt' : keyLt ⟨xi, xa, xs', xc⟩ ⟨ki, ka, ks, kc⟩
                  · have hos : stepOk (lastK Fct.key (ps.map (·.1))) (⟨ki, ka, ks, kc⟩ : Ky) := fun q h => by
                      rw [HXX.out.1] at h
                      cases h
                      exact hlt'
                    rw [decide_eq_true hlt'] at HKB
                    clear hlt'
                    have hstep := addG_step (one := fctS) (key := Fct.key) (ps.map (·.1)) k' st (by rw [HST.out]) (by rw [HST.out]; exact hos)
                    rw [HX.out.2.2.2.2, HST.out] at hstep
                    have HSP := Lib.hid hstep
                    clear hstep hos
                    go_wp2_with fail
                    have m0 : ∀ p : InC (fun w' => Below w4.heap.size w4 w'), p.w.cell? ⟨kb, 0, none⟩ = some (.int .i64 ki) := fun p => by rw [(H4.out.2.2.2.2.2.2.1.below p.h (by omega)).cell]; rfl
                    have m1 : ∀ p : InC (fun w' => Below w4.heap.size w4 w'), p.w.cell? ⟨kb, 1, none⟩ = some (.int .u8 (ka.toNat : Int)) := fun p => by rw [(H4.out.2.2.2.2.2.2.1.below p.h (by omega)).cell]; rfl
                    have m2 : ∀ p : InC (fun w' => Below w4.heap.size w4 w'), p.w.cell? ⟨kb, 2, none⟩ = some (.string ks) := fun p => by rw [(H4.out.2.2.2.2.2.2.1.below p.h (by omega)).cell]; rfl
                    have m3 : ∀ p : InC (fun w' => Below w4.heap.size w4 w'), p.w.cell? ⟨kb, 3, none⟩ = some (.int .i64 kc) := fun p => by rw [(H4.out.2.2.2.2.2.2.1.below p.h (by omega)).cell]; rfl
                    have n0 : ∀ p : InC (fun w' => Below w4.heap.size w4 w'), p.w.cell? (ad.add (q * 5)) = some (.int .i64 xi) := fun p => (World.cell?_of_block (a := (ad.add (q * 5))) (p.h.block _ HXX.out.2.1)).trans HXX.out.2.2.1
                    have n1 : ∀ p : InC (fun w' => Below w4.heap.size w4 w'), p.w.cell? ⟨(ad.add (q * 5)).block, (ad.add (q * 5)).off + 1, none⟩ = some (.int .u8 (xa.toNat : Int)) := fun p => (World.cell?_of_block (a := ⟨(ad.add (q * 5)).block, (ad.add (q * 5)).off + 1, none⟩) (p.h.block _ HXX.out.2.1)).trans HXX.out.2.2.2.1
                    have n2 : ∀ p : InC (fun w' => Below w4.heap.size w4 w'), p.w.cell? ⟨(ad.add (q * 5)).block, (ad.add (q * 5)).off + 2, none⟩ = some (.string xs') := fun p => (World.cell?_of_block (a := ⟨(ad.add (q * 5)).block, (ad.add (q * 5)).off + 2, none⟩) (p.h.block _ HXX.out.2.1)).trans HXX.out.2.2.2.2.1
                    have n3 : ∀ p : InC (fun w' => Below w4.heap.size w4 w'), p.w.cell? ⟨(ad.add (q * 5)).block, (ad.add (q * 5)).off + 3, none⟩ = some (.int .i64 xc) := fun p => (World.cell?_of_block (a := ⟨(ad.add (q * 5)).block, (ad.add (q * 5)).off + 3, none⟩) (p.h.block _ HXX.out.2.1)).trans HXX.out.2.2.2.2.2.1
                    have hinh : Nonempty (InC (fun w' => Below w4.heap.size w4 w')) := ⟨⟨w4, Below.refl _ _⟩⟩
                    refine wp_region_class (fun w' => Below w4.heap.size w4 w') (by kernel_rfl) (by kernel_rfl) (Below.refl _ _).drew ?_
                    repeat (go_big_quiet_step (first | (go_at_call 33; rename_i p; exact class_call (HKB.out _) (fun _ hb => below_then p.h p.h.size hb))))
                    refine wpQuiet_nil ?_
                    rintro _ ⟨p4', rfl⟩
                    clear hinh m0 m1 m2 m3 n0 n1 n2 n3
                    have hb6 := p4'.h
                    have hs6 := hb6.size
                    generalize p4'.w = w6 at hb6 hs6 ⊢
                    have y0 : w6.cell? ⟨kb, 0, none⟩ = some (.int .i64 ki) := by rw [(H4.out.2.2.2.2.2.2.1.below hb6 (by omega)).cell]; rfl
                    have y1 : w6.cell? ⟨kb, 1, none⟩ = some (.int .u8 (ka.toNat : Int)) := by rw [(H4.out.2.2.2.2.2.2.1.below hb6 (by omega)).cell]; rfl
                    have y2 : w6.cell? ⟨kb, 2, none⟩ = some (.string ks) := by rw [(H4.out.2.2.2.2.2.2.1.below hb6 (by omega)).cell]; rfl
                    have y3 : w6.cell? ⟨kb, 3, none⟩ = some (.int .i64 kc) := by rw [(H4.out.2.2.2.2.2.2.1.below hb6 (by omega)).cell]; rfl
                    have hok : okKy (⟨ki, ka, ks, kc⟩ : Ky) := Nat.le_trans HN.out (by decide)
                    have H6 := Lib.hid (And.intro (OwnPs.below H4.out.1 hb6) (And.intro (fun p hp => (H4.out.2.1 p hp).below hb6 : ∀ p ∈ ps, ValB w6 (some w.heap.size) p.2 p.1.val) (And.intro (H4.out.2.2.1.below hb6) (And.intro (below_then H4.out.2.2.2.1 H4.out.2.2.2.1.size hb6) (And.intro (H4.out.2.2.2.2.1.below hb6) (And.intro (H4.out.2.2.2.2.2.1.below hb6) hok))))))
                    clear hb6 hok
                    go_wp2_with (at_builtin; refine wpList_appP1H (cell := fctCells) (val := Fct.val) (ok := fun c => okKy c.key) (sz := 5) w6 rfl _ _ 24 rfl (w.heap.size + 1) 32 ii iz 64 Try.underlying24 hii hiz hi1 hi2 hi3 (by decide) fct_len fct_one (.slice (some ad) j cc) j ps rfl H6.out.1 ⟨⟨ki, ka, ks, kc⟩, x⟩ (.slice A4 L c4) w6.heap.size rfl rfl H6.out.2.2.2.2.2.2 H6.out.2.2.2.2.1 _ rfl ?_ ?_ ?_ ?_)
                    · unfold maxLen; omega
                    · omega
                    · omega
                    intro v7 w7 ho7 hg7 hv7
                    have hrow := H3.out.2.2.2.2.1
                    have hb7 : Below w.heap.size w w7 := H6.out.2.2.2.1.grown hg7 H6.out.2.2.2.1.size (fun k e => by have := (hrow k e).1; omega)
                    have hvs7 : ∀ p ∈ ps ++ [((⟨⟨ki, ka, ks, kc⟩, x⟩ : Fct), Value.slice A4 L c4)], ValB w7 (some w.heap.size) p.2 p.1.val := by
                      intro p hp
                      rcases List.mem_append.1 hp with hp | hp
                      · exact (H6.out.2.1 p hp).kept (H6.out.1.2.2 p hp).2 hg7
                      · rw [List.mem_singleton] at hp
                        subst hp
                        exact H6.out.2.2.2.2.2.1.kept H6.out.2.2.2.2.1 hg7
                    have hr7 : RdR w7 w.heap.size h st2 := H6.out.2.2.1.keep fun k hk hkk => hg7.block k hk fun e => by
                      have h1 := (hrow k e.symm).1
                      rcases hkk with rfl | hkk
                      · omega
                      · have := H1.out.2.2 k hkk.symm
                        omega
                    have hs7 := hg7.size
                    have H7 := Lib.hid (And.intro ho7 (And.intro hvs7 (And.intro hr7 hb7)))
                    clear ho7 hvs7 hr7 hb7 hg7 hv7 hrow y0 y1 y2 y3
                    go_wp2_with fail
                    go_roundg k'
                    case measure => omega
                    case rel => exact ⟨j + 1, _, st2, by omega, by go_num, H7.out.1, H7.out.2.1, H7.out.2.2.1, H7.out.2.2.2, by omega, by rw [List.map_append]; exact HSP.out.symm⟩
                  · have hos : ¬ stepOk (lastK Fct.key (ps.map (·.1))) (⟨ki, ka, ks, kc⟩ : Ky) := fun h => hlt' (h _ HXX.out.1)
                    rw [decide_eq_false hlt'] at HKB
                    have hfin : R = ([], 5) := by
                      have h1 := addG_bad (one := fctS) (key := Fct.key) (ps.map (·.1)) k' (lastK Fct.key (ps.map (·.1))) st (by rw [HST.out]) (by rw [HST.out]; exact hos)
                      rw [HX.out.2.2.2.2] at h1
                      rw [HRC.out, h1, if_pos (by decide)]
                    have HF := Lib.hid hfin
                    clear hfin hlt' hos
                    go_wp2_with fail
                    have m0 : ∀ p : InC (fun w' => Below w4.heap.size w4 w'), p.w.cell? ⟨kb, 0, none⟩ = some (.int .i64 ki) := fun p => by rw [(H4.out.2.2.2.2.2.2.1.below p.h (by omega)).cell]; rfl
                    have m1 : ∀ p : InC (fun w' => Below w4.heap.size w4 w'), p.w.cell? ⟨kb, 1, none⟩ = some (.int .u8 (ka.toNat : Int)) := fun p => by rw [(H4.out.2.2.2.2.2.2.1.below p.h (by omega)).cell]; rfl
                    have m2 : ∀ p : InC (fun w' => Below w4.heap.size w4 w'), p.w.cell? ⟨kb, 2, none⟩ = some (.string ks) := fun p => by rw [(H4.out.2.2.2.2.2.2.1.below p.h (by omega)).cell]; rfl
                    have m3 : ∀ p : InC (fun w' => Below w4.heap.size w4 w'), p.w.cell? ⟨kb, 3, none⟩ = some (.int .i64 kc) := fun p => by rw [(H4.out.2.2.2.2.2.2.1.below p.h (by omega)).cell]; rfl
                    have n0 : ∀ p : InC (fun w' => Below w4.heap.size w4 w'), p.w.cell? (ad.add (q * 5)) = some (.int .i64 xi) := fun p => (World.cell?_of_block (a := (ad.add (q * 5))) (p.h.block _ HXX.out.2.1)).trans HXX.out.2.2.1
                    have n1 : ∀ p : InC (fun w' => Below w4.heap.size w4 w'), p.w.cell? ⟨(ad.add (q * 5)).block, (ad.add (q * 5)).off + 1, none⟩ = some (.int .u8 (xa.toNat : Int)) := fun p => (World.cell?_of_block (a := ⟨(ad.add (q * 5)).block, (ad.add (q * 5)).off + 1, none⟩) (p.h.block _ HXX.out.2.1)).trans HXX.out.2.2.2.1
                    have n2 : ∀ p : InC (fun w' => Below w4.heap.size w4 w'), p.w.cell? ⟨(ad.add (q * 5)).block, (ad.add (q * 5)).off + 2, none⟩ = some (.string xs') := fun p => (World.cell?_of_block (a := ⟨(ad.add (q * 5)).block, (ad.add (q * 5)).off + 2, none⟩) (p.h.block _ HXX.out.2.1)).trans HXX.out.2.2.2.2.1
                    have n3 : ∀ p : InC (fun w' => Below w4.heap.size w4 w'), p.w.cell? ⟨(ad.add (q * 5)).block, (ad.add (q * 5)).off + 3, none⟩ = some (.int .i64 xc) := fun p => (World.cell?_of_block (a := ⟨(ad.add (q * 5)).block, (ad.add (q * 5)).off + 3, none⟩) (p.h.block _ HXX.out.2.1)).trans HXX.out.2.2.2.2.2.1
                    have hinh : Nonempty (InC (fun w' => Below w4.heap.size w4 w')) := ⟨⟨w4, Below.refl _ _⟩⟩
                    refine wp_region_class (fun w' => Below w4.heap.size w4 w') (by kernel_rfl) (by kernel_rfl) (Below.refl _ _).drew ?_
                    repeat (go_big_quiet_step (first | (go_at_call 33; rename_i p; exact class_call (HKB.out _) (fun _ hb => below_then p.h p.h.size hb))))
                    refine wpQuiet_nil ?_
                    rintro _ ⟨p4', rfl⟩
                    clear hinh m0 m1 m2 m3 n0 n1 n2 n3
                    have hb6 := p4'.h
                    have hs6 := hb6.size
                    generalize p4'.w = w6 at hb6 hs6 ⊢
                    go_wp2_with fail
                    go_ret2
                    rw [HF.out]
                    exact ⟨_, rfl, OwnL.nil _ _ _, below_then H4.out.2.2.2.1 H4.out.2.2.2.1.size hb6⟩
        · obtain rfl : j = F := by omega
          obtain rfl : gk = 0 := by omega
          have hge : ¬ (j : Int) < (j : Int) := by omega
          have hgo : lsGo fctS Fct.key j none (some r) = (ps.map (·.1), 0, st) := by rw [← HX.out.2.2.2.2]; unfold addG lsGo; simp
          by_cases hl : 0 < leftS st
          · have hfin : R = ([], 5) := by rw [HRC.out, hgo]; simp [hl]
            have hl' : 0 < (leftS st : Int) := by omega
            have HF := Lib.hid hfin
            clear hfin hl hgo
            go_wp2_with (go_at_call 34; refine (rleft_any HX.out.2.2.1).mono ?_; rintro e w4 ⟨rfl, rfl⟩)
            go_ret2
            rw [HF.out]
            exact ⟨_, rfl, OwnL.nil _ _ _, HX.out.2.2.2.1⟩
          · have hfin : R = (ps.map (·.1), 0) := by rw [HRC.out, hgo]; simp; omega
            have hl' : ¬ 0 < (leftS st : Int) := by omega
            have HF := Lib.hid hfin
            clear hfin hl hgo
            go_wp2_with (go_at_call 34; refine (rleft_any HX.out.2.2.1).mono ?_; rintro e w4 ⟨rfl, rfl⟩)
            go_ret2
            rw [HF.out]
            have ho := OwnPs.list HX.out.1
            have hlen : (ps.map (·.1)).length = j := by rw [List.length_map]; exact HX.out.1.1
            have ho2 : OwnL fctCells Fct.val (fun c => okKy c.key) 5 32 wr w.heap.size u7 (ps.map (·.1)).length (ps.map (·.1)) := by rw [hlen]; exact ho.lower (by omega)
            exact ⟨_, rfl, ho2, HX.out.2.2.2.1⟩
end Go.Proofs.Ytegoeagmadhpgaa
