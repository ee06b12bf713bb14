import Derived.Test.YtegoeagmadhpgaaLeafRM
import Derived.Test.YtegoeagmadhpgaaTakeCM
import Derived.Test.YtegoeagmadhpgaaListFM
import Derived.Test.YtegoeagmadhpgaaMTake
import Derived.Test.YtegoeagmadhpgaaKeyCM
import Derived.Test.YtegoeagmadhpgaaClsM
set_option linter.unusedVariables false
set_option linter.unusedSimpArgs false
/- Layer 15: a list of children that is read: contract. -/
namespace Go.Proofs.Ytegoeagmadhpgaa
open Go.RowKit

theorem chdS_tk {st : Option (List UInt8)} (h : (getKeyS st).2.1 = 0) : chdS st = tkC (getKeyS st).1 (getKeyS st).2.2 := by
  unfold chdS tkC
  rw [if_neg (by omega)]
theorem chdS_no {st : Option (List UInt8)} (h : (getKeyS st).2.1 ≠ 0) : chdS st = (Chd.zero, (getKeyS st).2.1, (getKeyS st).2.2) := by
  unfold chdS
  rw [if_pos h]
theorem tkC_ok (k : Ky) (st : Option (List UInt8)) (h : (tkC k st).2.1 = 0) : (tkC k st).1.key = k := by
  unfold tkC at h ⊢
  split at h
  · rename_i h1
    exact absurd h h1
  · rename_i h1
    split at h
    · rename_i h2
      exact absurd h h2
    · rename_i h2
      rw [if_neg h1, if_neg h2]
theorem keyC_any (w : World) (k : Ky) (b p : Int) : Calls Try.prog 46 #[.agg #[.int .i64 k.ino, .int .u8 (k.what.toNat : Int), .string k.name, .int .i64 k.chunk, .int .i64 b, .int .i64 p]] w fun e w' => e = .returned k.val ∧ Below w.heap.size w w' := by
  obtain ⟨fi, fa, fs, fc⟩ := k
  unfold Ky.val
  dsimp only
  go_enter Try.func46, Try.ntmps46
  go_wp2_with fail
  refine post_cell1 Try.results46 Try.underlying30 rfl _ rfl (by have := Blk.new (w.alloc (.cells #[.int .i64 fi, .int .u8 (fa.toNat : Int), .string fs, .int .i64 fc, .int .i64 b, .int .i64 p] 73)) 30 #[.int .i64 fi, .int .u8 (fa.toNat : Int), .string fs, .int .i64 fc]; rw [alloc_sz] at this; exact this) (by kernel_rfl) ?_
  exact ⟨rfl, ((Below.refl _ _).alloc (Nat.le_refl _) _).alloc (by simp) _⟩
def LsCEnd (w : World) (r : List Chd × Nat) (e : Ending) (w' : World) : Prop :=
  ∃ v, e = .returned (.tuple #[v, .int .i64 (r.2 : Int)]) ∧ (∃ ps : List (Chd × Value), ps.map (·.1) = r.1 ∧ OwnCG w' w.heap.size v r.1.length ps) ∧ Below w.heap.size w w'

set_option maxRecDepth 100000 in
set_option maxHeartbeats 4000000 in
theorem listC_any (w : World) (A : Option Addr) (c : Nat) (xs : List UInt8) (hr : RV w A (bv xs)) (hx : xs.length ≤ 140737488355328) :
    Calls Try.prog 45 #[.slice A xs.length c, .func (.func 46) #[] #[], .func (.func 47) #[.agg #[]] #[]] w (LsCEnd w (getInnerS xs)) := by
  have HR := Lib.hid hr
  clear hr
  obtain ⟨ii, iz, hii, hiz, hi1, hi2, hi3⟩ := chd_info'
  cases xs with
  | nil =>
    go_enter Try.func45, Try.ntmps45
    go_wp2_with fail
    refine (new_any w A c [] HR.out hx).mono ?_
    rintro e w1 ⟨g, h, rfl, hrd, hb1, hg1, hg2, hh⟩
    have H1 := Lib.hid (And.intro hrd hb1)
    clear hrd hb1 hh
    go_wp2_with fail
    refine (take_any (s := 1) H1.out.1 (.inl rfl)).mono ?_
    rintro e w2 ⟨rfl, hr2, hg3⟩
    rw [show takeS (some []) 1 = (0, 4, none) from rfl]
    dsimp only
    have hbw : Below w.heap.size w w2 := H1.out.2.grown hg3 H1.out.2.size (fun k e => by injection e with e; omega)
    have H2 := Lib.hid hbw
    clear hr2 hg3 hbw
    go_wp2_with fail
    go_ret2
    exact ⟨_, rfl, ⟨[], rfl, OwnG.nil _ _⟩, H2.out⟩
  | cons f r =>
    have ht : takeS (some (f :: r)) 1 = (f.toNat, 0, some r) := by simp [takeS, leval]
    have HT := Lib.hid ht
    have hf := f.toNat_lt
    clear ht
    by_cases h0 : f.toNat = 0
    · go_enter Try.func45, Try.ntmps45
      go_wp2_with fail
      refine (new_any w A c (f :: r) HR.out hx).mono ?_
      rintro e w1 ⟨g, h, rfl, hrd, hb1, hg1, hg2, hh⟩
      have H1 := Lib.hid (And.intro hrd hb1)
      clear hrd hb1 hh
      go_wp2_with fail
      refine (take_any (s := 1) H1.out.1 (.inl rfl)).mono ?_
      rintro e w2 ⟨rfl, hr2, hg3⟩
      rw [HT.out, h0]
      dsimp only
      have hbw : Below w.heap.size w w2 := H1.out.2.grown hg3 H1.out.2.size (fun k e => by injection e with e; omega)
      have hfin : getInnerS (f :: r) = ([], 5) := by unfold getInnerS lsS; dsimp only; rw [if_pos h0]
      have H2 := Lib.hid (And.intro hbw hfin)
      clear hr2 hg3 hbw hfin h0
      go_wp2_with fail
      go_ret2
      rw [H2.out.2]
      exact ⟨_, rfl, ⟨[], rfl, OwnG.nil _ _⟩, H2.out.1⟩
    · go_enter Try.func45, Try.ntmps45
      go_wp2_with fail
      refine (new_any w A c (f :: r) HR.out hx).mono ?_
      rintro e w1 ⟨g, h, rfl, hrd, hb1, hg1, hg2, hh⟩
      have H1 := Lib.hid (And.intro hrd (And.intro hb1 hh))
      clear hrd hb1 hh
      go_wp2_with fail
      refine (take_any (s := 1) H1.out.1 (.inl rfl)).mono ?_
      rintro e w2 ⟨rfl, hr2, hg3⟩
      rw [HT.out] at hr2 ⊢
      dsimp only at hr2 ⊢
      have hbw : Below w.heap.size w w2 := H1.out.2.1.grown hg3 H1.out.2.1.size (fun k e => by injection e with e; omega)
      have hs2 := hg3.size
      have H2 := Lib.hid (And.intro hr2 hbw)
      clear hr2 hbw hg3
      have hne : ((f.toNat : Int) == 0) = false := beq_eq_false_iff_ne.2 (by omega)
      obtain ⟨F, hF⟩ : ∃ F, f.toNat = F := ⟨_, rfl⟩
      have hrec : getInnerS (f :: r) = if (lsGo chdS Chd.key F none (some r)).2.1 ≠ 0 then ([], (lsGo chdS Chd.key F none (some r)).2.1) else if 0 < leftS (lsGo chdS Chd.key F none (some r)).2.2 then ([], 5) else ((lsGo chdS Chd.key F none (some r)).1, 0) := by
        unfold getInnerS lsS
        dsimp only
        rw [if_neg h0, hF]
      rw [hF] at hf hne h0 ⊢
      have hF0 : 0 < F := by omega
      have HRC := Lib.hid hrec
      clear hrec hF h0
      go_wp2_with fail
      go_loopg [11, 30] F (fun k v i wr => ∃ (j : Nat) (ps : List (Chd × Value)) (st : Option (List UInt8)), j + k = F ∧ i = .int .u64 j ∧ OwnPs chdCells Chd.val (fun c => okKy c.key) 6 73 wr w1.heap.size v j ps ∧
        (∀ p ∈ ps, SpB wr w1.heap.size p.2 p.1.val) ∧ Rd wr g h st ∧ Below w.heap.size w wr ∧ w1.heap.size ≤ wr.heap.size ∧ addG (ps.map (·.1)) (lsGo chdS Chd.key k (lastK Chd.key (ps.map (·.1))) st) = lsGo chdS Chd.key F none (some r))
      case atStart => exact ⟨0, [], some r, by omega, rfl, OwnPs.nil _ _ _, (fun _ hp => by cases hp), H2.out.1, H2.out.2, hs2, addG_nil _ _ _⟩
      case round =>
        obtain ⟨j, ps, st, hj, rfl, ho, hvs, hrd, hb, hsz, heq⟩ := hrel
        have HX := Lib.hid (And.intro ho (And.intro hvs (And.intro hrd (And.intro hb heq))))
        clear ho hvs hrd hb heq
        by_cases hlt : j < F
        · obtain ⟨k', rfl⟩ : ∃ k', gk = k' + 1 := ⟨gk - 1, by omega⟩
          have hnm := getKeyS_name st
          obtain ⟨q, hq⟩ : ∃ q, getKeyS st = q := ⟨_, rfl⟩
          rw [hq] at hnm
          have HQ := Lib.hid hq
          clear hq
          obtain ⟨⟨ki, ka, ks, kc⟩, code, st1⟩ := q
          dsimp only at hnm
          have HN := Lib.hid hnm
          clear hnm
          go_wp2_with fail
          refine (getKey_any HX.out.2.2.1 (fun k hk => by have := (H1.out.2.2 k hk).2; omega)).mono ?_
          rintro e w3 ⟨rfl, hr3, hg3⟩
          rw [HQ.out] at hr3 ⊢
          unfold Ky.val
          dsimp only at hr3 ⊢
          have hs3 := hg3.size
          have hb3 := HX.out.2.2.2.1.grown hg3 HX.out.2.2.2.1.size (fun k e => by injection e with e; omega)
          have hv3 : ∀ p ∈ ps, SpB w3 w1.heap.size p.2 p.1.val := fun p hp => (HX.out.2.1 p hp).far hg3 (by omega)
          have ho3 : OwnPs chdCells Chd.val (fun c => okKy c.key) 6 73 w3 w1.heap.size u11 j ps := OwnPs.kept HX.out.1 hg3 (.inr fun e => by have := (OwnPs.blk HX.out.1 e).1; omega) (fun p hp => (HX.out.2.1 p hp).valB fun k e => by injection e with e; omega)
          have H3 := Lib.hid (And.intro hr3 (And.intro hb3 (And.intro hv3 ho3)))
          clear hr3 hb3 hv3 ho3 hg3
          by_cases hcode : code ≠ 0
          · have hne1 : ((code : Int) != 0) = true := by simp; omega
            have hfin : getInnerS (f :: r) = ([], code) := by
              have h2 : (chdS st).2.1 = code := by rw [chdS_no (by rw [HQ.out]; exact hcode), HQ.out]
              have h1 := addG_no (one := chdS) (key := Chd.key) (ps.map (·.1)) k' (lastK Chd.key (ps.map (·.1))) st (by rw [h2]; exact hcode)
              rw [HX.out.2.2.2.2, h2] at h1
              rw [HRC.out, h1, if_pos hcode]
            have HF := Lib.hid hfin
            clear hfin hcode
            go_wp2_with fail
            go_ret2
            rw [HF.out]
            exact ⟨_, rfl, ⟨[], rfl, OwnG.nil _ _⟩, H3.out.2.1.alloc H3.out.2.1.size _⟩
          · obtain rfl : code = 0 := by omega
            have htk : chdS st = tkC ⟨ki, ka, ks, kc⟩ st1 := by rw [chdS_tk (by rw [HQ.out]), HQ.out]
            have HTK := Lib.hid htk
            clear htk hcode
            obtain ⟨AA, cc, rfl, hin, hcc1, hcc2, hAA⟩ := OwnL.listIn chd_len (OwnPs.list H3.out.2.2.2)
            have hrdA := rd_alloc H3.out.1 (.cells #[.int .i64 ki, .int .u8 (ka.toNat : Int), .string ks, .int .i64 kc] 30)
            have hKA := Blk.new w3 30 #[.int .i64 ki, .int .u8 (ka.toNat : Int), .string ks, .int .i64 kc]
            have hbA := (Below.refl w3.heap.size w3).alloc (Nat.le_refl _) (.cells #[.int .i64 ki, .int .u8 (ka.toNat : Int), .string ks, .int .i64 kc] 30)
            have HA := Lib.hid (And.intro hrdA (And.intro hKA hbA))
            clear hrdA hKA hbA hin hAA
            obtain ⟨q2, hq2⟩ : ∃ q2, tkC ⟨ki, ka, ks, kc⟩ st1 = q2 := ⟨_, rfl⟩
            have htk2 := tkC_ok (⟨ki, ka, ks, kc⟩ : Ky) st1
            rw [hq2] at htk2
            have HQ2 := Lib.hid hq2
            have HTK2 := Lib.hid htk2
            clear hq2 htk2
            obtain ⟨⟨⟨ai, aa, as', ac⟩, xb, xp⟩, code2, st2⟩ := q2
            go_wp2_with fail
            refine (takeC_any HA.out.1 (fun k hk => by have := (H1.out.2.2 k hk).2; simp; omega) (⟨ki, ka, ks, kc⟩ : Ky)).mono ?_
            rintro e w4 ⟨rfl, hr4, hg4⟩
            rw [HQ2.out] at hr4 ⊢
            dsimp only [chdCells] at hr4 ⊢
            have hs4 : w3.heap.size + 1 ≤ w4.heap.size := by have := hg4.size; simpa using this
            have hg34 : w3.grownBy w4 (some g) := grown_from_alloc hg4
            have hK4 := HA.out.2.1.grown hg4 (fun e => by injection e with e; omega)
            have hb4 := H3.out.2.1.grown hg34 H3.out.2.1.size (fun k e => by injection e with e; omega)
            have hv4 : ∀ p ∈ ps, SpB w4 w1.heap.size p.2 p.1.val := fun p hp => (H3.out.2.2.1 p hp).far hg34 (by omega)
            have ho4' : OwnPs chdCells Chd.val (fun c => okKy c.key) 6 73 w4 w1.heap.size (.slice AA j cc) j ps := OwnPs.kept H3.out.2.2.2 hg34 (.inr fun e => by have := (OwnPs.blk H3.out.2.2.2 e).1; omega) (fun p hp => (H3.out.2.2.1 p hp).valB fun k e => by injection e with e; omega)
            have H4 := Lib.hid (And.intro hr4 (And.intro hb4 (And.intro hv4 (And.intro ho4' hK4))))
            clear hr4 hb4 hv4 ho4' hK4 hg4 hg34
            by_cases hcode2 : code2 ≠ 0
            · have hne2 : ((code2 : Int) != 0) = true := by simp; omega
              have hfin : getInnerS (f :: r) = ([], code2) := by
                have h2 : (chdS st).2.1 = code2 := by rw [HTK.out, HQ2.out]
                have h1 := addG_no (one := chdS) (key := Chd.key) (ps.map (·.1)) k' (lastK Chd.key (ps.map (·.1))) st (by rw [h2]; exact hcode2)
                rw [HX.out.2.2.2.2, h2] at h1
                rw [HRC.out, h1, if_pos hcode2]
              have HF := Lib.hid hfin
              clear hfin hcode2
              go_wp2_with fail
              go_ret2
              rw [HF.out]
              exact ⟨_, rfl, ⟨[], rfl, OwnG.nil _ _⟩, H4.out.2.1.alloc H4.out.2.1.size _⟩
            · obtain rfl : code2 = 0 := by omega
              have hk1 := HTK2.out rfl
              injection hk1 with e1 e2 e3 e4
              subst e1 e2 e3 e4
              have hst : chdS st = (⟨⟨ai, aa, as', ac⟩, xb, xp⟩, 0, st2) := by rw [HTK.out, HQ2.out]
              have HST := Lib.hid (And.intro hst True.intro)
              clear hst hcode2
              have hb45 := (Below.refl w4.heap.size w4).alloc (Nat.le_refl _) (.cells #[.int .i64 ai, .int .u8 (aa.toNat : Int), .string as', .int .i64 ac, .int .i64 xb, .int .i64 xp] 73)
              have hF5 := Blk.new w4 73 #[.int .i64 ai, .int .u8 (aa.toNat : Int), .string as', .int .i64 ac, .int .i64 xb, .int .i64 xp]
              have H5 := Lib.hid (And.intro (H4.out.1.below hb45) (And.intro (below_then H4.out.2.1 H4.out.2.1.size hb45) (And.intro (fun p hp => (H4.out.2.2.1 p hp).below hb45 : ∀ p ∈ ps, SpB _ w1.heap.size p.2 p.1.val) (And.intro (OwnPs.below H4.out.2.2.2.1 hb45) (And.intro (H4.out.2.2.2.2.below hb45 (by omega)) (And.intro True.intro hF5))))))
              clear hb45 hF5
              go_wp2_with fail
              have hs5 := alloc_sz w4 (.cells #[.int .i64 ai, .int .u8 (aa.toNat : Int), .string as', .int .i64 ac, .int .i64 xb, .int .i64 xp] 73)
              generalize w4.alloc (.cells #[.int .i64 ai, .int .u8 (aa.toNat : Int), .string as', .int .i64 ac, .int .i64 xb, .int .i64 xp] 73) = w5 at *
              obtain ⟨kb, hkb⟩ : ∃ kb, w3.heap.size = kb := ⟨_, rfl⟩
              obtain ⟨fb, hfb⟩ : ∃ fb, w4.heap.size = fb := ⟨_, rfl⟩
              have hkb5 : kb < w5.heap.size := by omega
              have hfb5 : fb < w5.heap.size := by omega
              rw [hkb] at H5 ⊢
              rw [hfb] at H5 ⊢
              have hs5' : w4.heap.size + 1 ≤ w5.heap.size := by omega
              have hkb' : w3.heap.size ≤ kb ∧ kb ≤ w3.heap.size := by omega
              have hfb' : w4.heap.size ≤ fb ∧ fb ≤ w4.heap.size := by omega
              clear hs5 hkb hfb
              rcases Nat.eq_zero_or_pos j with hj0 | hj0
              · have q3 : decide (0 < (j : Int)) = false := decide_eq_false (by omega)
                have q4 : decide (0 < j) = false := decide_eq_false (by omega)
                have hos : stepOk (lastK Chd.key (ps.map (·.1))) (⟨ai, aa, as', ac⟩ : Ky) := by
                  have h1 := H5.out.2.2.2.1.1
                  have : ps = [] := List.eq_nil_of_length_eq_zero (by omega)
                  rw [this]
                  intro q h
                  cases h
                have HJ := Lib.hid hj0
                clear hj0
                have hstep := addG_step (one := chdS) (key := Chd.key) (ps.map (·.1)) k' st (by rw [HST.out.1]) (by rw [HST.out.1]; exact hos)
                rw [HX.out.2.2.2.2, HST.out.1] at hstep
                have HSP := Lib.hid hstep
                clear hstep hos
                have m0 : ∀ p : InC (fun w' => Below w5.heap.size w5 w'), p.w.cell? ⟨kb, 0, none⟩ = some (.int .i64 ai) := fun p => by rw [(H5.out.2.2.2.2.1.below p.h (by omega)).cell]; rfl
                have m1 : ∀ p : InC (fun w' => Below w5.heap.size w5 w'), p.w.cell? ⟨kb, 1, none⟩ = some (.int .u8 (aa.toNat : Int)) := fun p => by rw [(H5.out.2.2.2.2.1.below p.h (by omega)).cell]; rfl
                have m2 : ∀ p : InC (fun w' => Below w5.heap.size w5 w'), p.w.cell? ⟨kb, 2, none⟩ = some (.string as') := fun p => by rw [(H5.out.2.2.2.2.1.below p.h (by omega)).cell]; rfl
                have m3 : ∀ p : InC (fun w' => Below w5.heap.size w5 w'), p.w.cell? ⟨kb, 3, none⟩ = some (.int .i64 ac) := fun p => by rw [(H5.out.2.2.2.2.1.below p.h (by omega)).cell]; rfl
                have hinh : Nonempty (InC (fun w' => Below w5.heap.size w5 w')) := ⟨⟨w5, Below.refl _ _⟩⟩
                refine wp_region_class (fun w' => Below w5.heap.size w5 w') (by kernel_rfl) (by kernel_rfl) (Below.refl _ _).drew ?_
                repeat (go_big_quiet_step (fail))
                refine wpQuiet_nil ?_
                rintro _ ⟨p4', rfl⟩
                clear hinh m0 m1 m2 m3
                have hb6 := p4'.h
                have hs6 := hb6.size
                generalize p4'.w = w6 at hb6 hs6 ⊢
                have hF6 := H5.out.2.2.2.2.2.2.below hb6 (by omega)
                have hF6c := hF6.cell
                have y0 : w6.cell? ⟨fb, 0, none⟩ = some (.int .i64 ai) := by rw [hF6c]; rfl
                have y1 : w6.cell? ⟨fb, 1, none⟩ = some (.int .u8 (aa.toNat : Int)) := by rw [hF6c]; rfl
                have y2 : w6.cell? ⟨fb, 2, none⟩ = some (.string as') := by rw [hF6c]; rfl
                have y3 : w6.cell? ⟨fb, 3, none⟩ = some (.int .i64 ac) := by rw [hF6c]; rfl
                have y4 : w6.cell? ⟨fb, 4, none⟩ = some (.int .i64 xb) := by rw [hF6c]; rfl
                have y5 : w6.cell? ⟨fb, 5, none⟩ = some (.int .i64 xp) := by rw [hF6c]; rfl
                have ho6 := H5.out.2.2.2.1.below hb6
                have hsp6 : SpB w6 (w3.heap.size + 1) (.slice none 0 0) [] := SpB.nil _ _
                have hrow : ∀ k, (Value.slice AA j cc).ownBlock = some k → w1.heap.size ≤ k ∧ k < w3.heap.size := fun k hk => OwnPs.blk H3.out.2.2.2 hk
                have hu1 : ValB w6 (Value.slice AA j cc).ownBlock (.slice none 0 0) [] := hsp6.valB fun k hk => by have := (hrow k hk).2; omega
                have hok : okKy (⟨ai, aa, as', ac⟩ : Ky) := Nat.le_trans HN.out (by decide)
                have H6 := Lib.hid (And.intro ho6 (And.intro hsp6 (And.intro hrow (And.intro hu1 (And.intro hok (And.intro (H5.out.1.below hb6) (And.intro (below_then H5.out.2.1 H5.out.2.1.size hb6) (fun p hp => (H5.out.2.2.1 p hp).below hb6 : ∀ p ∈ ps, SpB w6 w1.heap.size p.2 p.1.val))))))))
                clear hF6 hF6c ho6 hsp6 hrow hu1 hok hb6
                go_wp2_with (at_builtin; refine wpList_appP1H (cell := chdCells) (val := Chd.val) (ok := fun c => okKy c.key) (sz := 6) w6 rfl _ _ 44 rfl w1.heap.size 73 ii iz 56 Try.underlying44 hii hiz hi1 hi2 hi3 (by decide) chd_len chd_one (.slice AA j cc) j ps rfl H6.out.1 ⟨⟨ai, aa, as', ac⟩, xb, xp⟩ (.slice none 0 0) w6.heap.size rfl rfl H6.out.2.2.2.2.1 H6.out.2.2.2.1 _ rfl ?_ ?_ ?_ ?_)
                · unfold maxLen; omega
                · omega
                · omega
                intro v7 w7 ho7 hg7 hv7
                have hrow := H6.out.2.2.1
                have hb7 : Below w.heap.size w w7 := H6.out.2.2.2.2.2.2.1.grown hg7 H6.out.2.2.2.2.2.2.1.size (fun k e => by have := (hrow k e).1; have := H1.out.2.1.size; omega)
                have hvs7 : ∀ p ∈ ps ++ [((⟨⟨ai, aa, as', ac⟩, xb, xp⟩ : Chd), Value.slice none 0 0)], SpB w7 w1.heap.size p.2 p.1.val := by
                  intro p hp
                  rcases List.mem_append.1 hp with hp | hp
                  · exact (H6.out.2.2.2.2.2.2.2 p hp).kept (H6.out.1.2.2 p hp).2 hg7
                  · rw [List.mem_singleton] at hp
                    subst hp
                    exact (H6.out.2.1.kept H6.out.2.2.2.1 hg7).lower (by omega)
                have hr7 : Rd w7 g h st2 := H6.out.2.2.2.2.2.1.keep fun k hk hkk => hg7.block k hk fun e => by
                  have h1 := (hrow k e.symm).1
                  rcases hkk with rfl | hkk
                  · omega
                  · have := (H1.out.2.2 k hkk.symm).2
                    omega
                have hs7 := hg7.size
                have H7 := Lib.hid (And.intro ho7 (And.intro hvs7 (And.intro hr7 hb7)))
                clear ho7 hvs7 hr7 hb7 hg7 hv7 hrow
                go_wp2_with fail
                go_roundg k'
                case measure => omega
                case rel => exact ⟨j + 1, _, st2, by omega, by go_num, H7.out.1, H7.out.2.1, H7.out.2.2.1, H7.out.2.2.2, by omega, by rw [List.map_append]; exact HSP.out.symm⟩
              · have q3 : decide (0 < (j : Int)) = true := decide_eq_true (by omega)
                have q4 : decide (0 < j) = true := decide_eq_true (by omega)
                obtain ⟨q, hq⟩ : ∃ q, j = q + 1 := ⟨j - 1, by omega⟩
                have hwm : IntKind.i64.wrap ((j : Int) - 1) = (q : Int) := by rw [hq]; exact (IntWalk.i64_in _ (by omega)).trans (by omega)
                have hmn : (q : Int) < (j : Int) := by omega
                have hlen : (ps.map (·.1)).length = j := by rw [List.length_map]; exact H5.out.2.2.2.1.1
                obtain ⟨x', hx'⟩ : ∃ x, (ps.map (·.1))[q]? = some x := ⟨_, List.getElem?_eq_getElem (by omega)⟩
                obtain ⟨AA', cc', hAA', hin, _, _, _⟩ := OwnL.listIn chd_len (OwnPs.list H5.out.2.2.2.1)
                injection hAA' with hA1 _ hA3
                subst hA1 hA3
                obtain ⟨okx, ad, hA', hblk', x0, x1, x2, x3, x4, x5⟩ := ChdsIn.at_ hin hx'
                subst hA'
                have hlast : lastK Chd.key (ps.map (·.1)) = some x'.key := by
                  unfold lastK
                  rw [List.getLast?_eq_getElem?, hlen, hq, Nat.add_sub_cancel, hx']
                  rfl
                have HXX := Lib.hid (And.intro hlast (And.intro hblk' (And.intro x0 (And.intro x1 (And.intro x2 (And.intro x3 (And.intro x4 (And.intro x5 hq))))))))
                clear x0 x1 x2 x3 x4 x5 hx' hq hlast hin hlen okx
                obtain ⟨⟨xi, xa, xs, xc⟩, zb, zp⟩ := x'
                dsimp only at HXX
                have HKB := Lib.hid (fun w => beforeK_any w ⟨xi, xa, xs, xc⟩ ⟨ai, aa, as', ac⟩)
                have HKF := Lib.hid (fun w => keyC_any w ⟨xi, xa, xs, xc⟩ zb zp)
                unfold Ky.val at HKB HKF
                dsimp only at HKB HKF
                by_cases hlt' : keyLt ⟨xi, xa, xs, xc⟩ ⟨ai, aa, as', ac⟩
                · have hos : stepOk (lastK Chd.key (ps.map (·.1))) (⟨ai, aa, as', ac⟩ : Ky) := fun q h => by
                    rw [HXX.out.1] at h
                    cases h
                    exact hlt'
                  rw [decide_eq_true hlt'] at HKB
                  clear hlt'
                  have hstep := addG_step (one := chdS) (key := Chd.key) (ps.map (·.1)) k' st (by rw [HST.out.1]) (by rw [HST.out.1]; exact hos)
                  rw [HX.out.2.2.2.2, HST.out.1] at hstep
                  have HSP := Lib.hid hstep
                  clear hstep hos
                  have m0 : ∀ p : InC (fun w' => Below w5.heap.size w5 w'), p.w.cell? ⟨kb, 0, none⟩ = some (.int .i64 ai) := fun p => by rw [(H5.out.2.2.2.2.1.below p.h (by omega)).cell]; rfl
                  have m1 : ∀ p : InC (fun w' => Below w5.heap.size w5 w'), p.w.cell? ⟨kb, 1, none⟩ = some (.int .u8 (aa.toNat : Int)) := fun p => by rw [(H5.out.2.2.2.2.1.below p.h (by omega)).cell]; rfl
                  have m2 : ∀ p : InC (fun w' => Below w5.heap.size w5 w'), p.w.cell? ⟨kb, 2, none⟩ = some (.string as') := fun p => by rw [(H5.out.2.2.2.2.1.below p.h (by omega)).cell]; rfl
                  have m3 : ∀ p : InC (fun w' => Below w5.heap.size w5 w'), p.w.cell? ⟨kb, 3, none⟩ = some (.int .i64 ac) := fun p => by rw [(H5.out.2.2.2.2.1.below p.h (by omega)).cell]; rfl
                  have n0 : ∀ p : InC (fun w' => Below w5.heap.size w5 w'), p.w.cell? (ad.add (q * 6)) = some (.int .i64 xi) := fun p => (World.cell?_of_block (p.h.block _ HXX.out.2.1)).trans HXX.out.2.2.1
                  have n1 : ∀ p : InC (fun w' => Below w5.heap.size w5 w'), p.w.cell? ⟨(ad.add (q * 6)).block, (ad.add (q * 6)).off + 1, none⟩ = some (.int .u8 (xa.toNat : Int)) := fun p => by
                    have e1 := p.h.block _ HXX.out.2.1
                    have e2 : p.w.cell? ⟨(ad.add (q * 6)).block, (ad.add (q * 6)).off + 1, none⟩ = w5.cell? ⟨(ad.add (q * 6)).block, (ad.add (q * 6)).off + 1, none⟩ := World.cell?_of_block e1
                    exact e2.trans HXX.out.2.2.2.1
                  have n2 : ∀ p : InC (fun w' => Below w5.heap.size w5 w'), p.w.cell? ⟨(ad.add (q * 6)).block, (ad.add (q * 6)).off + 2, none⟩ = some (.string xs) := fun p => by
                    have e1 := p.h.block _ HXX.out.2.1
                    have e2 : p.w.cell? ⟨(ad.add (q * 6)).block, (ad.add (q * 6)).off + 2, none⟩ = w5.cell? ⟨(ad.add (q * 6)).block, (ad.add (q * 6)).off + 2, none⟩ := World.cell?_of_block e1
                    exact e2.trans HXX.out.2.2.2.2.1
                  have n3 : ∀ p : InC (fun w' => Below w5.heap.size w5 w'), p.w.cell? ⟨(ad.add (q * 6)).block, (ad.add (q * 6)).off + 3, none⟩ = some (.int .i64 xc) := fun p => by
                    have e1 := p.h.block _ HXX.out.2.1
                    have e2 : p.w.cell? ⟨(ad.add (q * 6)).block, (ad.add (q * 6)).off + 3, none⟩ = w5.cell? ⟨(ad.add (q * 6)).block, (ad.add (q * 6)).off + 3, none⟩ := World.cell?_of_block e1
                    exact e2.trans HXX.out.2.2.2.2.2.1
                  have n4 : ∀ p : InC (fun w' => Below w5.heap.size w5 w'), p.w.cell? ⟨(ad.add (q * 6)).block, (ad.add (q * 6)).off + 4, none⟩ = some (.int .i64 zb) := fun p => by
                    have e1 := p.h.block _ HXX.out.2.1
                    have e2 : p.w.cell? ⟨(ad.add (q * 6)).block, (ad.add (q * 6)).off + 4, none⟩ = w5.cell? ⟨(ad.add (q * 6)).block, (ad.add (q * 6)).off + 4, none⟩ := World.cell?_of_block e1
                    exact e2.trans HXX.out.2.2.2.2.2.2.1
                  have n5 : ∀ p : InC (fun w' => Below w5.heap.size w5 w'), p.w.cell? ⟨(ad.add (q * 6)).block, (ad.add (q * 6)).off + 5, none⟩ = some (.int .i64 zp) := fun p => by
                    have e1 := p.h.block _ HXX.out.2.1
                    have e2 : p.w.cell? ⟨(ad.add (q * 6)).block, (ad.add (q * 6)).off + 5, none⟩ = w5.cell? ⟨(ad.add (q * 6)).block, (ad.add (q * 6)).off + 5, none⟩ := World.cell?_of_block e1
                    exact e2.trans HXX.out.2.2.2.2.2.2.2.1
                  have hinh : Nonempty (InC (fun w' => Below w5.heap.size w5 w')) := ⟨⟨w5, Below.refl _ _⟩⟩
                  refine wp_region_class (fun w' => Below w5.heap.size w5 w') (by kernel_rfl) (by kernel_rfl) (Below.refl _ _).drew ?_
                  repeat (go_big_quiet_step (first | (go_at_call 46; rename_i p; exact class_call (HKF.out _) (fun _ hb => below_then p.h p.h.size hb)) | (go_at_call 37; rename_i p; exact class_call (HKB.out _) (fun _ hb => below_then p.h p.h.size hb))))
                  refine wpQuiet_nil ?_
                  rintro _ ⟨p4', rfl⟩
                  clear hinh m0 m1 m2 m3 n0 n1 n2 n3 n4 n5
                  have hb6 := p4'.h
                  have hs6 := hb6.size
                  generalize p4'.w = w6 at hb6 hs6 ⊢
                  have hF6 := H5.out.2.2.2.2.2.2.below hb6 (by omega)
                  have hF6c := hF6.cell
                  have y0 : w6.cell? ⟨fb, 0, none⟩ = some (.int .i64 ai) := by rw [hF6c]; rfl
                  have y1 : w6.cell? ⟨fb, 1, none⟩ = some (.int .u8 (aa.toNat : Int)) := by rw [hF6c]; rfl
                  have y2 : w6.cell? ⟨fb, 2, none⟩ = some (.string as') := by rw [hF6c]; rfl
                  have y3 : w6.cell? ⟨fb, 3, none⟩ = some (.int .i64 ac) := by rw [hF6c]; rfl
                  have y4 : w6.cell? ⟨fb, 4, none⟩ = some (.int .i64 xb) := by rw [hF6c]; rfl
                  have y5 : w6.cell? ⟨fb, 5, none⟩ = some (.int .i64 xp) := by rw [hF6c]; rfl
                  have ho6 := H5.out.2.2.2.1.below hb6
                  have hsp6 : SpB w6 (w3.heap.size + 1) (.slice none 0 0) [] := SpB.nil _ _
                  have hrow : ∀ k, (Value.slice (some ad) j cc).ownBlock = some k → w1.heap.size ≤ k ∧ k < w3.heap.size := fun k hk => OwnPs.blk H3.out.2.2.2 hk
                  have hu1 : ValB w6 (Value.slice (some ad) j cc).ownBlock (.slice none 0 0) [] := hsp6.valB fun k hk => by have := (hrow k hk).2; omega
                  have hok : okKy (⟨ai, aa, as', ac⟩ : Ky) := Nat.le_trans HN.out (by decide)
                  have H6 := Lib.hid (And.intro ho6 (And.intro hsp6 (And.intro hrow (And.intro hu1 (And.intro hok (And.intro (H5.out.1.below hb6) (And.intro (below_then H5.out.2.1 H5.out.2.1.size hb6) (fun p hp => (H5.out.2.2.1 p hp).below hb6 : ∀ p ∈ ps, SpB w6 w1.heap.size p.2 p.1.val))))))))
                  clear hF6 hF6c ho6 hsp6 hrow hu1 hok hb6
                  go_wp2_with (at_builtin; refine wpList_appP1H (cell := chdCells) (val := Chd.val) (ok := fun c => okKy c.key) (sz := 6) w6 rfl _ _ 44 rfl w1.heap.size 73 ii iz 56 Try.underlying44 hii hiz hi1 hi2 hi3 (by decide) chd_len chd_one (.slice (some ad) j cc) j ps rfl H6.out.1 ⟨⟨ai, aa, as', ac⟩, xb, xp⟩ (.slice none 0 0) w6.heap.size rfl rfl H6.out.2.2.2.2.1 H6.out.2.2.2.1 _ rfl ?_ ?_ ?_ ?_)
                  · unfold maxLen; omega
                  · omega
                  · omega
                  intro v7 w7 ho7 hg7 hv7
                  have hrow := H6.out.2.2.1
                  have hb7 : Below w.heap.size w w7 := H6.out.2.2.2.2.2.2.1.grown hg7 H6.out.2.2.2.2.2.2.1.size (fun k e => by have := (hrow k e).1; have := H1.out.2.1.size; omega)
                  have hvs7 : ∀ p ∈ ps ++ [((⟨⟨ai, aa, as', ac⟩, xb, xp⟩ : Chd), Value.slice none 0 0)], SpB w7 w1.heap.size p.2 p.1.val := by
                    intro p hp
                    rcases List.mem_append.1 hp with hp | hp
                    · exact (H6.out.2.2.2.2.2.2.2 p hp).kept (H6.out.1.2.2 p hp).2 hg7
                    · rw [List.mem_singleton] at hp
                      subst hp
                      exact (H6.out.2.1.kept H6.out.2.2.2.1 hg7).lower (by omega)
                  have hr7 : Rd w7 g h st2 := H6.out.2.2.2.2.2.1.keep fun k hk hkk => hg7.block k hk fun e => by
                    have h1 := (hrow k e.symm).1
                    rcases hkk with rfl | hkk
                    · omega
                    · have := (H1.out.2.2 k hkk.symm).2
                      omega
                  have hs7 := hg7.size
                  have H7 := Lib.hid (And.intro ho7 (And.intro hvs7 (And.intro hr7 hb7)))
                  clear ho7 hvs7 hr7 hb7 hg7 hv7 hrow
                  go_wp2_with fail
                  go_roundg k'
                  case measure => omega
                  case rel => exact ⟨j + 1, _, st2, by omega, by go_num, H7.out.1, H7.out.2.1, H7.out.2.2.1, H7.out.2.2.2, by omega, by rw [List.map_append]; exact HSP.out.symm⟩
                · have hos : ¬ stepOk (lastK Chd.key (ps.map (·.1))) (⟨ai, aa, as', ac⟩ : Ky) := fun h => hlt' (h _ HXX.out.1)
                  rw [decide_eq_false hlt'] at HKB
                  have hfin : getInnerS (f :: r) = ([], 5) := by
                    have h1 := addG_bad (one := chdS) (key := Chd.key) (ps.map (·.1)) k' (lastK Chd.key (ps.map (·.1))) st (by rw [HST.out.1]) (by rw [HST.out.1]; exact hos)
                    rw [HX.out.2.2.2.2] at h1
                    rw [HRC.out, h1, if_pos (by decide)]
                  have HF := Lib.hid hfin
                  clear hfin hlt' hos
                  have m0 : ∀ p : InC (fun w' => Below w5.heap.size w5 w'), p.w.cell? ⟨kb, 0, none⟩ = some (.int .i64 ai) := fun p => by rw [(H5.out.2.2.2.2.1.below p.h (by omega)).cell]; rfl
                  have m1 : ∀ p : InC (fun w' => Below w5.heap.size w5 w'), p.w.cell? ⟨kb, 1, none⟩ = some (.int .u8 (aa.toNat : Int)) := fun p => by rw [(H5.out.2.2.2.2.1.below p.h (by omega)).cell]; rfl
                  have m2 : ∀ p : InC (fun w' => Below w5.heap.size w5 w'), p.w.cell? ⟨kb, 2, none⟩ = some (.string as') := fun p => by rw [(H5.out.2.2.2.2.1.below p.h (by omega)).cell]; rfl
                  have m3 : ∀ p : InC (fun w' => Below w5.heap.size w5 w'), p.w.cell? ⟨kb, 3, none⟩ = some (.int .i64 ac) := fun p => by rw [(H5.out.2.2.2.2.1.below p.h (by omega)).cell]; rfl
                  have n0 : ∀ p : InC (fun w' => Below w5.heap.size w5 w'), p.w.cell? (ad.add (q * 6)) = some (.int .i64 xi) := fun p => (World.cell?_of_block (p.h.block _ HXX.out.2.1)).trans HXX.out.2.2.1
                  have n1 : ∀ p : InC (fun w' => Below w5.heap.size w5 w'), p.w.cell? ⟨(ad.add (q * 6)).block, (ad.add (q * 6)).off + 1, none⟩ = some (.int .u8 (xa.toNat : Int)) := fun p => by
                    have e1 := p.h.block _ HXX.out.2.1
                    have e2 : p.w.cell? ⟨(ad.add (q * 6)).block, (ad.add (q * 6)).off + 1, none⟩ = w5.cell? ⟨(ad.add (q * 6)).block, (ad.add (q * 6)).off + 1, none⟩ := World.cell?_of_block e1
                    exact e2.trans HXX.out.2.2.2.1
                  have n2 : ∀ p : InC (fun w' => Below w5.heap.size w5 w'), p.w.cell? ⟨(ad.add (q * 6)).block, (ad.add (q * 6)).off + 2, none⟩ = some (.string xs) := fun p => by
                    have e1 := p.h.block _ HXX.out.2.1
                    have e2 : p.w.cell? ⟨(ad.add (q * 6)).block, (ad.add (q * 6)).off + 2, none⟩ = w5.cell? ⟨(ad.add (q * 6)).block, (ad.add (q * 6)).off + 2, none⟩ := World.cell?_of_block e1
                    exact e2.trans HXX.out.2.2.2.2.1
                  have n3 : ∀ p : InC (fun w' => Below w5.heap.size w5 w'), p.w.cell? ⟨(ad.add (q * 6)).block, (ad.add (q * 6)).off + 3, none⟩ = some (.int .i64 xc) := fun p => by
                    have e1 := p.h.block _ HXX.out.2.1
                    have e2 : p.w.cell? ⟨(ad.add (q * 6)).block, (ad.add (q * 6)).off + 3, none⟩ = w5.cell? ⟨(ad.add (q * 6)).block, (ad.add (q * 6)).off + 3, none⟩ := World.cell?_of_block e1
                    exact e2.trans HXX.out.2.2.2.2.2.1
                  have n4 : ∀ p : InC (fun w' => Below w5.heap.size w5 w'), p.w.cell? ⟨(ad.add (q * 6)).block, (ad.add (q * 6)).off + 4, none⟩ = some (.int .i64 zb) := fun p => by
                    have e1 := p.h.block _ HXX.out.2.1
                    have e2 : p.w.cell? ⟨(ad.add (q * 6)).block, (ad.add (q * 6)).off + 4, none⟩ = w5.cell? ⟨(ad.add (q * 6)).block, (ad.add (q * 6)).off + 4, none⟩ := World.cell?_of_block e1
                    exact e2.trans HXX.out.2.2.2.2.2.2.1
                  have n5 : ∀ p : InC (fun w' => Below w5.heap.size w5 w'), p.w.cell? ⟨(ad.add (q * 6)).block, (ad.add (q * 6)).off + 5, none⟩ = some (.int .i64 zp) := fun p => by
                    have e1 := p.h.block _ HXX.out.2.1
                    have e2 : p.w.cell? ⟨(ad.add (q * 6)).block, (ad.add (q * 6)).off + 5, none⟩ = w5.cell? ⟨(ad.add (q * 6)).block, (ad.add (q * 6)).off + 5, none⟩ := World.cell?_of_block e1
                    exact e2.trans HXX.out.2.2.2.2.2.2.2.1
                  have hinh : Nonempty (InC (fun w' => Below w5.heap.size w5 w')) := ⟨⟨w5, Below.refl _ _⟩⟩
                  refine wp_region_class (fun w' => Below w5.heap.size w5 w') (by kernel_rfl) (by kernel_rfl) (Below.refl _ _).drew ?_
                  repeat (go_big_quiet_step (first | (go_at_call 46; rename_i p; exact class_call (HKF.out _) (fun _ hb => below_then p.h p.h.size hb)) | (go_at_call 37; rename_i p; exact class_call (HKB.out _) (fun _ hb => below_then p.h p.h.size hb))))
                  refine wpQuiet_nil ?_
                  rintro _ ⟨p4', rfl⟩
                  clear hinh m0 m1 m2 m3 n0 n1 n2 n3 n4 n5
                  have hb6 := p4'.h
                  have hs6 := hb6.size
                  generalize p4'.w = w6 at hb6 hs6 ⊢
                  go_wp2_with fail
                  go_ret2
                  rw [HF.out]
                  exact ⟨_, rfl, ⟨[], rfl, OwnG.nil _ _⟩, below_then H5.out.2.1 H5.out.2.1.size hb6⟩
        · obtain rfl : j = F := by omega
          obtain rfl : gk = 0 := by omega
          have hge : ¬ (j : Int) < (j : Int) := by omega
          have hgo : lsGo chdS Chd.key j none (some r) = (ps.map (·.1), 0, st) := by rw [← HX.out.2.2.2.2]; unfold addG lsGo; simp
          by_cases hl : 0 < leftS st
          · have hfin : getInnerS (f :: r) = ([], 5) := by rw [HRC.out, hgo]; simp [hl]
            have hl' : 0 < (leftS st : Int) := by omega
            have HF := Lib.hid hfin
            clear hfin hl hgo
            go_wp2_with (go_at_call 51; refine (left_any HX.out.2.2.1).mono ?_; rintro e w4 ⟨rfl, rfl⟩)
            go_ret2
            rw [HF.out]
            exact ⟨_, rfl, ⟨[], rfl, OwnG.nil _ _⟩, HX.out.2.2.2.1⟩
          · have hfin : getInnerS (f :: r) = (ps.map (·.1), 0) := by rw [HRC.out, hgo]; simp; omega
            have hl' : ¬ 0 < (leftS st : Int) := by omega
            have HF := Lib.hid hfin
            clear hfin hl hgo
            obtain ⟨g', c', rfl, hc1, hc2, hown⟩ := OwnPs.handed chd_len HX.out.1 HX.out.2.1 (by omega)
            have HO := Lib.hid (hown j (Nat.le_refl _) (by omega))
            have hn : (ps.map (·.1)).length = j := by rw [List.length_map]; exact HX.out.1.1
            have HN := Lib.hid hn
            clear hown hn
            go_wp2_with (go_at_call 51; refine (left_any HX.out.2.2.1).mono ?_; rintro e w4 ⟨rfl, rfl⟩)
            go_ret2
            rw [HF.out]
            exact ⟨_, rfl, ⟨ps, rfl, by rw [HN.out]; exact HO.out.lower (by have := H1.out.2.1.size; omega)⟩, HX.out.2.2.2.1⟩
end Go.Proofs.Ytegoeagmadhpgaa
