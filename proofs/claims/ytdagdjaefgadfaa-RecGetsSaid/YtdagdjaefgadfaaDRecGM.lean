import Derived.Test.YtdagdjaefgadfaaDKeyGM
import Derived.Test.YtdagdjaefgadfaaRecGM
set_option linter.unusedVariables false
set_option linter.unusedSimpArgs false
/- Layer 11, the document's Get: contract. -/
namespace Go.Proofs.Ytdagdjaefgadfaa
open Go.RowKit

theorem rdr_own {w : World} {base : Nat} {A : Option Addr} {n c : Nat} {xs : List UInt8} {e : TypeId} (hn : xs.length = n) (hown : OwnB e w base (.slice A n c) xs) :
    RdR (w.alloc (.cells #[.slice A n c, .bool false] 62)) w.heap.size ((Value.slice A n c).ownBlock) (some xs) := by
  subst hn
  obtain ⟨A', c', hv, hr, h1, h2, h3⟩ := hown.slice
  injection hv with e1 _ e2
  subst e1
  subst e2
  refine ⟨fun hk => ?_, xs, false, A, c, Blk.new _ _ _, hr.alloc _, h1, h2, h3, rfl⟩
  have := (hown.blk hk.symm).2
  omega
theorem oneS_none {st : Option (List UInt8)} (h : ∀ f r, st ≠ some (f :: r)) : oneS st = (Chg.zero, 4, none) ∧ takeS st 1 = (0, 4, none) := by
  cases st with
  | none => exact ⟨rfl, rfl⟩
  | some l =>
    cases l with
    | nil => exact ⟨rfl, rfl⟩
    | cons f r => exact absurd rfl (h f r)

set_option maxRecDepth 100000 in
set_option maxHeartbeats 4000000 in
theorem dRecGet_any (w : World) (A : Option Addr) (n c : Nat) (xs : List UInt8) (hn : xs.length = n) (hr : RV w A (bv xs)) (hx : n ≤ 140737488355328) :
    Calls Try.prog 10 #[.slice A n c] w (RecGetEnd w (getRecS xs)) := by
  have HR := Lib.hid (And.intro hr hn)
  clear hr
  obtain ⟨ii, iz, hii, hiz, hi1, hi2, hi3⟩ := chg_info'
  obtain ⟨R, hR⟩ : ∃ R, getRecS xs = R := ⟨_, rfl⟩
  rw [hR]
  have HRC := Lib.hid hR
  clear hR hn
  go_enter Try.func10, Try.ntmps10
  go_wp2_with (at_builtin; refine wpList_appB _ rfl _ _ 22 rfl w.heap.size 5 Try.underlying22 u8info (.slice none 0 0) [] rfl (OwnB.nil _ _ _) A n c xs rfl HR.out.2 HR.out.1 ?_ ?_ ?_)
  · rw [HR.out.2]; simpa using hx
  · exact Nat.le_refl _
  intro v1 w1 ho1 hg1 _
  obtain ⟨A1, c1, rfl, _, _, _, _⟩ := ho1.slice
  rw [HR.out.2] at ho1 ⊢
  have hb1 : Below w.heap.size w w1 := grown_none hg1
  have hrd := rdr_own HR.out.2 ho1
  have hh : ∀ k, (Value.slice A1 n c1).ownBlock = some k → k < w1.heap.size := fun k hk => (ho1.blk hk).2
  have hbB := hb1.alloc hb1.size (.cells #[.slice A1 n c1, .bool false] 62)
  generalize (Value.slice A1 n c1).ownBlock = h at hrd hh
  have H1 := Lib.hid (And.intro hrd (And.intro hbB (And.intro hh hb1.size)))
  clear ho1 hg1 hb1 hrd hh hbB
  go_wp2_with fail
  refine (rtake_any (s := 1) H1.out.1 (.inl rfl)).mono ?_
  rintro e w2 ⟨rfl, hr2, hg2⟩
  have hbw : Below w.heap.size w w2 := H1.out.2.1.grown hg2 H1.out.2.1.size (fun k e => by injection e with e; have := H1.out.2.2.2; omega)
  have hs2 : w1.heap.size < w2.heap.size := by have := hg2.size; rw [alloc_sz] at this; omega
  have H2 := Lib.hid (And.intro hr2 hbw)
  clear hr2 hbw hg2
  cases xs with
  | nil =>
    rw [show takeS (some []) 1 = (0, 4, none) from rfl]
    dsimp only
    have HF := Lib.hid (show R = ([], 4) by rw [← HRC.out]; rfl)
    go_wp2_with fail
    go_ret2
    rw [HF.out]
    exact ⟨_, rfl, OwnL.nil _ _ _, H2.out.2⟩
  | cons f r =>
    have ht : takeS (some (f :: r)) 1 = (f.toNat, 0, some r) := by simp [takeS, leval]
    rw [ht] at H2 ⊢
    dsimp only at H2 ⊢
    have hf := f.toNat_lt
    clear ht
    by_cases h0 : f.toNat = 0
    · have t0 : ((f.toNat : Int) == 0) = true := by rw [h0]; rfl
      have HF := Lib.hid (show R = ([], 5) by rw [← HRC.out]; unfold getRecS; dsimp only; rw [if_pos h0])
      clear h0
      go_wp2_with fail
      go_ret2
      rw [HF.out]
      exact ⟨_, rfl, OwnL.nil _ _ _, H2.out.2⟩
    · have hne : ((f.toNat : Int) == 0) = false := beq_eq_false_iff_ne.2 (by omega)
      obtain ⟨F, hF⟩ : ∃ F, f.toNat = F := ⟨_, rfl⟩
      have hrec : R = if (getsGo F (some r)).2.1 ≠ 0 then ([], (getsGo F (some r)).2.1) else if 0 < leftS (getsGo F (some r)).2.2 then ([], 5) else ((getsGo F (some r)).1, 0) := by
        rw [← HRC.out]
        unfold getRecS
        dsimp only
        rw [if_neg h0, hF]
      rw [hF] at hf hne ⊢
      have HRC := Lib.hid hrec
      clear hrec hF h0
      go_wp2_with fail
      go_loopg [8, 9] F (fun k v i wr => ∃ (j : Nat) (ps : List (Chg × Value)) (st : Option (List UInt8)), j + k = F ∧ i = .int .u64 j ∧ OwnPs chgCells Chg.val (fun c => okKy c.key) 6 41 wr (w1.heap.size + 1) v j ps ∧
        (∀ p ∈ ps, ValB wr (some w1.heap.size) p.2 p.1.val) ∧ RdR wr w1.heap.size h st ∧ Below w.heap.size w wr ∧ w1.heap.size < wr.heap.size ∧ addGo (ps.map (·.1)) (getsGo k st) = getsGo F (some r))
      case atStart => exact ⟨0, [], some r, by omega, rfl, OwnPs.nil _ _ _, (fun _ hp => by cases hp), H2.out.1, H2.out.2, hs2, addGo_nil _ _⟩
      case round =>
        obtain ⟨j, ps, st, hj, rfl, ho, hvs, hrd, hb, hsz, heq⟩ := hrel
        have HX := Lib.hid (And.intro ho (And.intro hvs (And.intro hrd (And.intro hb heq))))
        clear ho hvs hrd hb heq
        have hs1 := H1.out.2.2.2
        by_cases hlt : j < F
        · obtain ⟨k', rfl⟩ : ∃ k', gk = k' + 1 := ⟨gk - 1, by omega⟩
          have hnm := oneS_name st
          have hst1 := addGo_step (ps.map (·.1)) k' st
          have hst2 := addGo_no (ps.map (·.1)) k' st
          rw [HX.out.2.2.2.2] at hst1 hst2
          have herr : ∀ c, (oneS st).2.1 = c → c ≠ 0 → R = ([], c) := fun c h1 h2 => by
            have h3 := hst2 (by rw [h1]; exact h2)
            rw [HRC.out, h3]
            dsimp only
            rw [h1, if_pos h2]
          have HS := Lib.hid (And.intro hst1 (And.intro herr hnm))
          clear hst1 hst2 herr hnm
          have hjI : (j : Int) < (F : Int) := by omega
          have hjF : j ≤ 255 := by omega
          go_wp2_with fail
          refine (rtake_any (s := 1) HX.out.2.2.1 (.inl rfl)).mono ?_
          rintro e w3 ⟨rfl, hr3, hg3⟩
          have hb3 := HX.out.2.2.2.1.grown hg3 HX.out.2.2.2.1.size (fun k e => by injection e with e; omega)
          have hs3 : w1.heap.size < w3.heap.size := by have := hg3.size; omega
          have H3 := Lib.hid (And.intro hr3 (And.intro hb3 hg3))
          clear hr3 hb3 hg3
          by_cases hsh : ∀ f r, st ≠ some (f :: r)
          · obtain ⟨q1, q2⟩ := oneS_none hsh
            rw [q2]
            dsimp only
            have HF := Lib.hid (HS.out.2.1 4 (by rw [q1]) (by decide))
            clear q1 q2 hsh
            go_wp2_with fail
            go_ret2
            rw [HF.out]
            exact ⟨_, rfl, OwnL.nil _ _ _, H3.out.2.1⟩
          · obtain ⟨f', r', rfl⟩ : ∃ f' r', st = some (f' :: r') := by
              cases st with
              | none => exact absurd (fun _ _ h => by cases h) hsh
              | some l =>
                cases l with
                | nil => exact absurd (fun _ _ h => by cases h) hsh
                | cons f' r' => exact ⟨f', r', rfl⟩
            clear hsh
            rw [show takeS (some (f' :: r')) 1 = (f'.toNat, 0, some r') by simp [takeS, leval]] at H3 ⊢
            dsimp only at H3 ⊢
            have hf' := f'.toNat_lt
            have hone : oneS (some (f' :: r')) = if 1 < f'.toNat then (Chg.zero, 5, some r')
              else if (getKeyS (some r')).2.1 ≠ 0 ∨ f'.toNat = 0 then (⟨(getKeyS (some r')).1, [], decide ((getKeyS (some r')).2.1 = 0)⟩, (getKeyS (some r')).2.1, (getKeyS (some r')).2.2)
              else if (rowS (getKeyS (some r')).2.2).2.1 = 0 ∧ (rowS (getKeyS (some r')).2.2).1.length = 0 then (⟨(getKeyS (some r')).1, [], false⟩, 5, (rowS (getKeyS (some r')).2.2).2.2)
              else (⟨(getKeyS (some r')).1, (rowS (getKeyS (some r')).2.2).1, false⟩, (rowS (getKeyS (some r')).2.2).2.1, (rowS (getKeyS (some r')).2.2).2.2) := rfl
            by_cases h1 : 1 < f'.toNat
            · have h1I : (1 : Int) < (f'.toNat : Int) := by omega
              rw [if_pos h1] at hone
              have HF := Lib.hid (HS.out.2.1 5 (by rw [hone]) (by decide))
              clear hone h1
              go_wp2_with fail
              go_ret2
              rw [HF.out]
              exact ⟨_, rfl, OwnL.nil _ _ _, H3.out.2.1⟩
            · rw [if_neg h1] at hone
              have h1I : ¬ (1 : Int) < (f'.toNat : Int) := by omega
              have hkcode := getKeyS_code (some r')
              have hknm := getKeyS_name (some r')
              obtain ⟨K, hK⟩ : ∃ K, getKeyS (some r') = K := ⟨_, rfl⟩
              have HG := dGetKey_any H3.out.1 (fun k hk => by have := H1.out.2.2.1 k hk; omega)
              unfold DGetKeyEnd at HG
              rw [hK] at hone hkcode hknm HG
              clear hK
              have HG := Lib.hid HG
              obtain ⟨⟨ki, ka, ks, kc⟩, code, st2⟩ := K
              unfold Ky.val at HG
              dsimp only at hone hkcode hknm HG
              have HO := Lib.hid (And.intro hone hknm)
              clear hone hknm
              obtain ⟨fl, hfl⟩ : ∃ fl, f'.toNat = fl := ⟨_, rfl⟩
              rw [hfl] at h1 h1I hf' HO ⊢
              clear hfl
              go_wp2_with fail
              refine HG.out.mono ?_
              rintro e w4 ⟨rfl, hr4, hg4⟩
              have hb4 := H3.out.2.1.grown hg4 H3.out.2.1.size (fun k e => by injection e with e; omega)
              have hs4 : w1.heap.size < w4.heap.size := by have := hg4.size; omega
              have hg34 := grown_trans H3.out.2.2 hg4
              have hrow : ∀ k, u8.ownBlock = some k → w1.heap.size + 1 ≤ k ∧ k < wr.heap.size := fun k hk => OwnPs.blk HX.out.1 hk
              have hnr : u8.ownBlock = none ∨ u8.ownBlock ≠ some w1.heap.size := .inr fun e => by have := (hrow _ e).1; omega
              have ho4 := OwnPs.kept HX.out.1 hg34 hnr HX.out.2.1
              have hv4 : ∀ p ∈ ps, ValB w4 (some w1.heap.size) p.2 p.1.val := fun p hp => (HX.out.2.1 p hp).grown hg34
              have H4 := Lib.hid (And.intro ho4 (And.intro hv4 (And.intro hr4 (And.intro hb4 (And.intro hrow (And.intro hnr (show wr.heap.size ≤ w4.heap.size by have := hg34.size; omega)))))))
              clear hr4 hg4 hb4 hg34 hrow hnr ho4 hv4
              by_cases hc0 : code = 0
              · subst hc0
                -- the key, in a block of its own
                obtain ⟨W, hW⟩ : ∃ W, w4.alloc (.cells #[.int .i64 ki, .int .u8 (ka.toNat : Int), .string ks, .int .i64 kc] 39) = W := ⟨_, rfl⟩
                have hbW : Below w4.heap.size w4 W := by rw [← hW]; exact (Below.refl _ _).alloc (Nat.le_refl _) _
                have hkW : Blk W w4.heap.size 39 #[.int .i64 ki, .int .u8 (ka.toNat : Int), .string ks, .int .i64 kc] := by rw [← hW]; exact Blk.new _ _ _
                have hsW : W.heap.size = w4.heap.size + 1 := by rw [← hW]; exact alloc_sz _ _
                have HW := Lib.hid (And.intro (OwnPs.below H4.out.1 hbW) (And.intro (fun p hp => (H4.out.2.1 p hp).below hbW) (And.intro (H4.out.2.2.1.below hbW) (And.intro (below_then H4.out.2.2.2.1 H4.out.2.2.2.1.size hbW) (And.intro hkW hsW)))))
                have y0 := hkW.cell 0
                have y1 := hkW.cell 1
                have y2 := hkW.cell 2
                have y3 := hkW.cell 3
                simp at y0 y1 y2 y3
                clear hbW hkW hsW
                subst hW
                by_cases hfl0 : fl = 0
                · subst hfl0
                  have hone : oneS (some (f' :: r')) = (⟨⟨ki, ka, ks, kc⟩, [], true⟩, 0, st2) := by
                    rw [HO.out.1, if_pos (.inr rfl)]
                    simp
                  have hstep := HS.out.1 (by rw [hone])
                  rw [hone] at hstep
                  have HQ := Lib.hid (And.intro hone hstep)
                  clear hone hstep
                  go_wp2_with (at_builtin; refine wpList_appP1H (cell := chgCells) (val := Chg.val) (ok := fun c => okKy c.key) (sz := 6) _ rfl _ _ 23 rfl (w1.heap.size + 1) 41 ii iz 72 Try.underlying23 hii hiz hi1 hi2 hi3 (by decide) chg_len chg_one u8 j ps rfl HW.out.1 ⟨⟨ki, ka, ks, kc⟩, [], true⟩ (.slice none 0 0) (w4.heap.size + 1) (alloc_sz _ _) rfl (Nat.le_trans HO.out.2 (by decide)) ⟨none, 0, rfl, RV.nil _ _, Nat.le_refl _, by decide, fun _ h => by cases h⟩ _ rfl ?_ ?_ ?_ ?_)
                  · unfold maxLen; omega
                  · omega
                  · rw [HW.out.2.2.2.2.2]; omega
                  intro v5 w5 ho5 hg5 hv5
                  have hbw5 : Below w.heap.size w w5 := HW.out.2.2.2.1.grown hg5 HW.out.2.2.2.1.size (fun k e => by have := (H4.out.2.2.2.2.1 k e).1; omega)
                  have hvs5 : ∀ p ∈ ps ++ [((⟨⟨ki, ka, ks, kc⟩, [], true⟩ : Chg), Value.slice none 0 0)], ValB w5 (some w1.heap.size) p.2 p.1.val := by
                    intro p hp
                    rcases List.mem_append.1 hp with hp | hp
                    · exact (HW.out.2.1 p hp).kept (HW.out.1.2.2 p hp).2 hg5
                    · rw [List.mem_singleton] at hp
                      subst hp
                      exact ⟨none, 0, rfl, RV.nil _ _, Nat.le_refl _, by decide, fun _ h => by cases h⟩
                  have hr5 : RdR w5 w1.heap.size h st2 := HW.out.2.2.1.keep fun k hk hkk => hg5.block k hk fun e => by
                    have h1 := (H4.out.2.2.2.2.1 k e.symm).1
                    rcases hkk with rfl | hkk
                    · omega
                    · have := H1.out.2.2.1 k hkk.symm
                      omega
                  have hs5 : w1.heap.size < w5.heap.size := by have := hg5.size; have := HW.out.2.2.2.2.2; omega
                  have H5 := Lib.hid (And.intro ho5 (And.intro hvs5 (And.intro hr5 hbw5)))
                  clear ho5 hvs5 hr5 hbw5 hg5 hv5 y0 y1 y2 y3
                  go_wp2_with fail
                  go_roundg k'
                  case measure => omega
                  case rel => exact ⟨j + 1, _, st2, by omega, by go_num, H5.out.1, H5.out.2.1, H5.out.2.2.1, H5.out.2.2.2, hs5, by rw [List.map_append]; exact HQ.out.2.symm⟩
                · have tfl : ((fl : Int) == 0) = false := beq_eq_false_iff_ne.2 (by omega)
                  have hrl : (rowS st2).2.1 = 0 ∨ (rowS st2).2.1 = 4 := by
                    unfold rowS
                    split
                    · exact .inr rfl
                    · exact .inr rfl
                    · split
                      · exact .inr rfl
                      · exact .inl rfl
                  have hone := HO.out.1
                  rw [if_neg (by omega)] at hone
                  have HRW := rrow_any HW.out.2.2.1
                  unfold RRowEnd at HRW
                  obtain ⟨Q, hQ⟩ : ∃ Q, rowS st2 = Q := ⟨_, rfl⟩
                  rw [hQ] at hrl hone HRW
                  clear hQ
                  have HRW := Lib.hid HRW
                  obtain ⟨x, rc, st3⟩ := Q
                  dsimp only at hrl hone HRW
                  have HO2 := Lib.hid hone
                  clear hone
                  go_wp2_with fail
                  refine HRW.out.mono ?_
                  rintro e w5 ⟨v5, rfl, ho5, hr5, hg5⟩
                  obtain ⟨A5, d5, rfl, _, _, _, _⟩ := ho5.slice
                  have hs5 : w4.heap.size + 1 ≤ w5.heap.size := by have := hg5.size; have := HW.out.2.2.2.2.2; omega
                  have hk5 := HW.out.2.2.2.2.1.grown hg5 (fun e => by injection e with e; omega)
                  have hb5 := HW.out.2.2.2.1.grown hg5 HW.out.2.2.2.1.size (fun k e => by injection e with e; omega)
                  have ho5' := OwnPs.kept HW.out.1 hg5 H4.out.2.2.2.2.2.1 HW.out.2.1
                  have hv5' : ∀ p ∈ ps, ValB w5 (some w1.heap.size) p.2 p.1.val := fun p hp => (HW.out.2.1 p hp).grown hg5
                  have hu1 : ValB w5 u8.ownBlock (.slice A5 x.length d5) x := valB_own_row ho5 (fun k hk => by have := (H4.out.2.2.2.2.1 k hk).2; have := H4.out.2.2.2.2.2.2; rw [HW.out.2.2.2.2.2]; omega)
                  have hu2 : ValB w5 (some w1.heap.size) (.slice A5 x.length d5) x := valB_own_row ho5 (fun k hk => by injection hk with hk; rw [HW.out.2.2.2.2.2]; omega)
                  have z0 := hk5.cell 0
                  have z1 := hk5.cell 1
                  have z2 := hk5.cell 2
                  have z3 := hk5.cell 3
                  simp at z0 z1 z2 z3
                  have H5 := Lib.hid (And.intro ho5' (And.intro hv5' (And.intro hr5 (And.intro hb5 (And.intro hu1 hu2)))))
                  clear ho5 hr5 hg5 hk5 hb5 ho5' hv5' hu1 hu2 y0 y1 y2 y3
                  rcases hrl with rfl | rfl
                  · by_cases hx0 : x.length = 0
                    · have tx : ((x.length : Int) == 0) = true := by rw [hx0]; rfl
                      have hone := HO2.out
                      rw [if_pos ⟨rfl, hx0⟩] at hone
                      have HF := Lib.hid (HS.out.2.1 5 (by rw [hone]) (by decide))
                      clear hone hx0
                      obtain ⟨L, hL⟩ : ∃ L, x.length = L := ⟨_, rfl⟩
                      rw [hL] at tx ⊢
                      clear hL
                      go_wp2_with fail
                      go_ret2
                      rw [HF.out]
                      exact ⟨_, rfl, OwnL.nil _ _ _, H5.out.2.2.2.1⟩
                    · have tx : ((x.length : Int) == 0) = false := beq_eq_false_iff_ne.2 (by omega)
                      have hone := HO2.out
                      rw [if_neg (fun h => hx0 h.2)] at hone
                      have hstep := HS.out.1 (by rw [hone])
                      rw [hone] at hstep
                      have HQ := Lib.hid hstep
                      obtain ⟨L, hL⟩ : ∃ L, x.length = L := ⟨_, rfl⟩
                      rw [hL] at tx H5 ⊢
                      clear hone hstep hx0 hL
                      go_wp2_with (at_builtin; refine wpList_appP1H (cell := chgCells) (val := Chg.val) (ok := fun c => okKy c.key) (sz := 6) w5 rfl _ _ 23 rfl (w1.heap.size + 1) 41 ii iz 72 Try.underlying23 hii hiz hi1 hi2 hi3 (by decide) chg_len chg_one u8 j ps rfl H5.out.1 ⟨⟨ki, ka, ks, kc⟩, x, false⟩ (.slice A5 L d5) w5.heap.size rfl rfl (Nat.le_trans HO.out.2 (by decide)) H5.out.2.2.2.2.1 _ rfl ?_ ?_ ?_ ?_)
                      · unfold maxLen; omega
                      · omega
                      · omega
                      intro v6 w6 ho6 hg6 hv6
                      have hbw6 : Below w.heap.size w w6 := H5.out.2.2.2.1.grown hg6 H5.out.2.2.2.1.size (fun k e => by have := (H4.out.2.2.2.2.1 k e).1; omega)
                      have hvs6 : ∀ p ∈ ps ++ [((⟨⟨ki, ka, ks, kc⟩, x, false⟩ : Chg), Value.slice A5 L d5)], ValB w6 (some w1.heap.size) p.2 p.1.val := by
                        intro p hp
                        rcases List.mem_append.1 hp with hp | hp
                        · exact (H5.out.2.1 p hp).kept (H5.out.1.2.2 p hp).2 hg6
                        · rw [List.mem_singleton] at hp
                          subst hp
                          exact H5.out.2.2.2.2.2.kept H5.out.2.2.2.2.1 hg6
                      have hr6 : RdR w6 w1.heap.size h st3 := H5.out.2.2.1.keep fun k hk hkk => hg6.block k hk fun e => by
                        have h1 := (H4.out.2.2.2.2.1 k e.symm).1
                        rcases hkk with rfl | hkk
                        · omega
                        · have := H1.out.2.2.1 k hkk.symm
                          omega
                      have hs6 : w1.heap.size < w6.heap.size := by have := hg6.size; omega
                      have H6 := Lib.hid (And.intro ho6 (And.intro hvs6 (And.intro hr6 hbw6)))
                      clear ho6 hvs6 hr6 hbw6 hg6 hv6 z0 z1 z2 z3
                      go_wp2_with fail
                      go_roundg k'
                      case measure => omega
                      case rel => exact ⟨j + 1, _, st3, by omega, by go_num, H6.out.1, H6.out.2.1, H6.out.2.2.1, H6.out.2.2.2, hs6, by rw [List.map_append]; exact HQ.out.symm⟩
                  · have hone := HO2.out
                    rw [if_neg (fun h => by cases h.1)] at hone
                    have HF := Lib.hid (HS.out.2.1 4 (by rw [hone]) (by decide))
                    clear hone
                    go_wp2_with fail
                    go_ret2
                    rw [HF.out]
                    exact ⟨_, rfl, OwnL.nil _ _ _, H5.out.2.2.2.1⟩
              · have tc : ((code : Int) != 0) = true := by simp; omega
                have hone := HO.out.1
                rw [if_pos (.inl hc0)] at hone
                have HF := Lib.hid (HS.out.2.1 code (by rw [hone]) hc0)
                clear hone hc0
                go_wp2_with fail
                go_ret2
                rw [HF.out]
                exact ⟨_, rfl, OwnL.nil _ _ _, H4.out.2.2.2.1.alloc H4.out.2.2.2.1.size _⟩
        · obtain rfl : j = F := by omega
          obtain rfl : gk = 0 := by omega
          have hge : ¬ (j : Int) < (j : Int) := by omega
          have hgo : getsGo j (some r) = (ps.map (·.1), 0, st) := by rw [← HX.out.2.2.2.2]; unfold addGo getsGo; simp
          by_cases hl : 0 < leftS st
          · have hfin : R = ([], 5) := by rw [HRC.out, hgo]; simp [hl]
            have hl' : 0 < (leftS st : Int) := by omega
            have HF := Lib.hid hfin
            clear hfin hl hgo
            go_wp2_with (go_at_call 34; refine (rleft_any HX.out.2.2.1).mono ?_; rintro e w4 ⟨rfl, rfl⟩)
            go_ret2
            rw [HF.out]
            exact ⟨_, rfl, OwnL.nil _ _ _, HX.out.2.2.2.1⟩
          · have hfin : R = (ps.map (·.1), 0) := by rw [HRC.out, hgo]; simp; omega
            have hl' : ¬ 0 < (leftS st : Int) := by omega
            have HF := Lib.hid hfin
            clear hfin hl hgo
            go_wp2_with (go_at_call 34; refine (rleft_any HX.out.2.2.1).mono ?_; rintro e w4 ⟨rfl, rfl⟩)
            go_ret2
            rw [HF.out]
            have ho := OwnPs.list HX.out.1
            have hlen : (ps.map (·.1)).length = j := by rw [List.length_map]; exact HX.out.1.1
            have ho2 : OwnC wr w.heap.size u8 (ps.map (·.1)).length (ps.map (·.1)) := by rw [hlen]; exact ho.lower (by omega)
            exact ⟨_, rfl, ho2, HX.out.2.2.2.1⟩
end Go.Proofs.Ytdagdjaefgadfaa
