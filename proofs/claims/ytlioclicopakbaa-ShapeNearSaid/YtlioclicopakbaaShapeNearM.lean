import Derived.Test.YtlioclicopakbaaShNrWM
import Derived.Test.YtlioclicopakbaaFactAM
import Derived.Test.YtlioclicopakbaaMDKey
set_option linter.unusedVariables false
set_option linter.unusedSimpArgs false
/- ShapeNear: the walk. -/
namespace Go.Proofs.Ytlioclicopakbaa
open Go.RowKit

theorem oneGo_mem (c : Fct) : ∀ (l : List Fct) (d : Bool) (f : Fct), f ∈ oneGo c l d → f = c ∨ f ∈ l
  | [], d, f, h => by
    rw [oneGo] at h
    split at h
    · cases h
    · exact .inl (by simpa using h)
  | x :: r, d, f, h => by
    rw [oneGo] at h
    split at h
    · rcases List.mem_append.1 h with h | h
      · split at h
        · cases h
        · exact .inl (by simpa using h)
      · exact (oneGo_mem c r _ f h).imp id (fun h => List.mem_cons_of_mem _ h)
    · split at h
      · rcases List.mem_cons.1 h with h | h
        · exact .inl h
        · rcases List.mem_cons.1 h with h | h
          · exact .inr (by rw [h]; simp)
          · exact (oneGo_mem c r _ f h).imp id (fun h => List.mem_cons_of_mem _ h)
      · rcases List.mem_cons.1 h with h | h
        · exact .inr (by rw [h]; simp)
        · exact (oneGo_mem c r _ f h).imp id (fun h => List.mem_cons_of_mem _ h)
theorem applyF_one (c : Chg) (l : List Fct) : (applyF l [c]).length ≤ l.length + 1 ∧ (∀ f ∈ applyF l [c], f = ⟨c.key, c.val⟩ ∨ f ∈ l) ∧ (ordB l = true → applyF l [c] = oneGo ⟨c.key, c.val⟩ l c.gone) := by
  unfold applyF
  split
  · exact ⟨oneGo_len _ _ _, fun f hf => oneGo_mem _ _ _ f hf, fun _ => rfl⟩
  · rename_i h
    exact ⟨Nat.zero_le _, (fun _ hf => by cases hf), (fun h' => absurd h' h)⟩
theorem chgs_one1 {w : World} {g : Nat} {t : TypeId} {k : Ky} {x : List UInt8} {B : Option Addr} {d : Nat} (hb : Blk w g t #[.int .i64 k.ino, .int .u8 (k.what.toNat : Int), .string k.name, .int .i64 k.chunk, .slice B x.length d, .bool false]) (ok : okKy k) (hr : RV w B (bv x)) (h1 : x.length ≤ d) (h2 : d ≤ maxLen) :
    ChgsIn w (some ⟨g, 0, none⟩) 1 [⟨k, x, false⟩] := by
  refine ⟨rfl, fun i a hi => ?_⟩
  cases i with
  | succ i => simp at hi
  | zero =>
    simp at hi
    subst hi
    refine ⟨ok, _, .slice B x.length d, rfl, ⟨B, d, rfl, hr, h1, h2, fun _ _ _ h => by cases h⟩, fun k' u hu => ?_⟩
    rw [Nat.zero_mul, add_zero, add_lit0, hb.cell]
    simpa [chgCells] using hu
theorem nots_snoc (Y : List Ky) {X : List Ky} {j : Nat} {x : Ky} (h : X[j]? = some x) : nots Y (X.take (j + 1)) = nots Y (X.take j) + (if x ∈ Y then 0 else 1) := by
  unfold nots
  rw [List.take_add_one, h, List.filter_append, List.length_append]
  congr 1
  by_cases hx : x ∈ Y
  · simp [hx]
  · simp [hx]
theorem nots_len (Y X : List Ky) : nots Y X ≤ X.length := List.length_filter_le _ _
theorem cuts_lens {cs : List Nat} (h : ∀ c ∈ cs, 1 ≤ c) : cs.length ≤ cs.sum := by
  induction cs with
  | nil => simp
  | cons c cs ih =>
    have h1 := h c (by simp)
    have h2 := ih fun x hx => h x (by simp [hx])
    simp only [List.length_cons, List.sum_cons]
    omega

set_option maxRecDepth 100000 in
set_option maxHeartbeats 8000000 in
theorem walkShapeNear (w : World) (s : Int) (ws : (Lit.int .i64 s).wf = true) (A : Option Addr) (d : Nat) (l : List Fct) (hin : FctsIn w A l.length l) (hvl : ∀ f ∈ l, f.val.length ≤ 140737488351232) (hn : l.length * 64 ≤ 140737488351232) (f : Fct) (B : Option Addr) (dd : Nat) (okf : okKy f.key) (hrf : RV w B (bv f.val)) (hl1 : f.val.length ≤ dd) (hl2 : dd ≤ maxLen) (hfv : f.val.length ≤ 140737488351232) :
    Calls Try.prog 7 #[.int .i64 s, .slice A l.length d, .agg #[.int .i64 f.key.ino, .int .u8 (f.key.what.toNat : Int), .string f.key.name, .int .i64 f.key.chunk, .slice B f.val.length dd]] w fun e w' => e = .returned (.bool true) ∧ Below w.heap.size w w' := by
  clear ws
  obtain ⟨n, hl⟩ : ∃ n, l.length = n := ⟨_, rfl⟩
  rw [hl] at hin hn ⊢
  obtain ⟨q, hq⟩ : ∃ q, f.val.length = q := ⟨_, rfl⟩
  rw [hq] at hl1 hfv ⊢
  have HMK := fun w => dMayK_any w f.key okf
  have HLV := Lib.hid lives16_any
  have H := Lib.hid (And.intro hin (And.intro hl (And.intro hvl (And.intro okf (And.intro hrf hq)))))
  clear hin hl hvl okf hrf hq
  obtain ⟨⟨fi, fa, fs, fc⟩, fv⟩ := f
  unfold Ky.val at HMK
  dsimp only at HMK H ⊢
  have hb0 := (Below.refl w.heap.size w).alloc (Nat.le_refl _) (.cells #[.int .i64 fi, .int .u8 (fa.toNat : Int), .string fs, .int .i64 fc, .slice B q dd] 41)
  have hB0 := Blk.new w 41 #[.int .i64 fi, .int .u8 (fa.toNat : Int), .string fs, .int .i64 fc, .slice B q dd]
  have hup : ∀ w', Below (w.alloc (.cells #[.int .i64 fi, .int .u8 (fa.toNat : Int), .string fs, .int .i64 fc, .slice B q dd] 41)).heap.size (w.alloc (.cells #[.int .i64 fi, .int .u8 (fa.toNat : Int), .string fs, .int .i64 fc, .slice B q dd] 41)) w' → ∀ i, w'.cell? ⟨w.heap.size, i, none⟩ = (#[.int .i64 fi, .int .u8 (fa.toNat : Int), .string fs, .int .i64 fc, .slice B q dd] : Array Value)[i]? := fun w' hb i => (hB0.below hb hB0.lt).cell i
  have BW : ∀ w', Below (w.alloc (.cells #[.int .i64 fi, .int .u8 (fa.toNat : Int), .string fs, .int .i64 fc, .slice B q dd] 41)).heap.size (w.alloc (.cells #[.int .i64 fi, .int .u8 (fa.toNat : Int), .string fs, .int .i64 fc, .slice B q dd] 41)) w' → Below w.heap.size w w' := fun w' hb => below_then hb0 hb0.size hb
  have c0 := hB0.cell 0
  have c1 := hB0.cell 1
  have c2 := hB0.cell 2
  have c3 := hB0.cell 3
  simp at c0 c1 c2 c3
  have HUP := Lib.hid hup
  have BW := Lib.hid BW
  have H0 := Lib.hid (And.intro hb0 hB0)
  clear hup hb0 hB0
  by_cases hm : mayK ⟨fi, fa, fs, fc⟩
  · rw [decide_eq_true hm] at HMK
    have HMK := Lib.hid HMK
    by_cases hq0 : q = 0
    · subst hq0
      clear hm
      go_enter Try.func7, Try.ntmps7
      go_wp2_with fail
      generalize w.alloc (.cells #[.int .i64 fi, .int .u8 (fa.toNat : Int), .string fs, .int .i64 fc, .slice B 0 dd] 41) = w0 at *
      refine (HMK.out _).mono ?_
      rintro e1 w1 ⟨rfl, hb1⟩
      have H1 := Lib.hid (show Below w0.heap.size w0 w1 from hb1)
      have c4 := HUP.out w1 hb1 4
      simp at c4
      clear hb1 c0 c1 c2 c3
      have HZ := Lib.hid (BW.out _ H1.out)
      go_wp2_with fail
      refine (HLV.out _).mono ?_
      rintro e9 w9 ⟨rfl, hb9⟩
      have H9 := Lib.hid (below_then HZ.out HZ.out.size hb9)
      clear hb9
      go_wp2_with fail
      go_ret
      exact ⟨rfl, H9.out⟩
    · have t1 : ((q : Int) == 0) = false := beq_eq_false_iff_ne.2 (by omega)
      by_cases hn2 : 2000 < n
      · have t2 : decide ((2000 : Int) < (n : Int)) = true := decide_eq_true (by omega)
        have t3 : (2000 : Int) < (n : Int) := by omega
        clear hm
        go_enter Try.func7, Try.ntmps7
        go_wp2_with fail
        generalize w.alloc (.cells #[.int .i64 fi, .int .u8 (fa.toNat : Int), .string fs, .int .i64 fc, .slice B q dd] 41) = w0 at *
        refine (HMK.out _).mono ?_
        rintro e1 w1 ⟨rfl, hb1⟩
        have H1 := Lib.hid (show Below w0.heap.size w0 w1 from hb1)
        have c4 := HUP.out w1 hb1 4
        simp at c4
        clear hb1 c0 c1 c2 c3
        have HZ := Lib.hid (BW.out _ H1.out)
        go_wp2_with fail
        refine (HLV.out _).mono ?_
        rintro e9 w9 ⟨rfl, hb9⟩
        have H9 := Lib.hid (below_then HZ.out HZ.out.size hb9)
        clear hb9
        go_wp2_with fail
        go_ret
        exact ⟨rfl, H9.out⟩
      · have t2 : decide ((2000 : Int) < (n : Int)) = false := decide_eq_false (by omega)
        have t3 : ¬ (2000 : Int) < (n : Int) := by omega
        have ho1 := applyF_one ⟨⟨fi, fa, fs, fc⟩, fv, false⟩ l
        have hmv : ∀ g ∈ applyF l [⟨⟨fi, fa, fs, fc⟩, fv, false⟩], g.val.length ≤ 140737488351232 := fun g hg => by
          rcases ho1.2.1 g hg with h | h
          · rw [h]
            have := H.out.2.2.2.2.2
            dsimp only
            omega
          · exact H.out.2.2.1 g h
        obtain ⟨L2, hL2⟩ : ∃ L2, applyF l [⟨⟨fi, fa, fs, fc⟩, fv, false⟩] = L2 := ⟨_, rfl⟩
        rw [hL2] at ho1 hmv
        have hap := ho1.2.2
        obtain ⟨N, hN⟩ : ∃ N, L2.length = N := ⟨_, rfl⟩
        have hN2 : N ≤ n + 1 := by have := ho1.1; have := H.out.2.1; omega
        have hn2k : n ≤ 2000 := by omega
        have HL2 := Lib.hid (And.intro hL2 (And.intro hN (And.intro hmv hap)))
        clear hm ho1 hmv hL2 hap hN
        go_enter Try.func7, Try.ntmps7
        go_wp2_with fail
        generalize w.alloc (.cells #[.int .i64 fi, .int .u8 (fa.toNat : Int), .string fs, .int .i64 fc, .slice B q dd] 41) = w0 at *
        refine (HMK.out _).mono ?_
        rintro e1 w1 ⟨rfl, hb1⟩
        have H1 := Lib.hid (show Below w0.heap.size w0 w1 from hb1)
        have c4 := HUP.out w1 hb1 4
        simp at c4
        clear hb1 c0 c1 c2 c3
        have c0 := HUP.out w1 H1.out 0
        have c1 := HUP.out w1 H1.out 1
        have c2 := HUP.out w1 H1.out 2
        have c3 := HUP.out w1 H1.out 3
        simp at c0 c1 c2 c3
        have hbk := Blk.new w1 44 #[.int .i64 fi, .int .u8 (fa.toNat : Int), .string fs, .int .i64 fc, .slice B q dd, .bool false]
        have hbw := below_then (BW.out _ H1.out) (BW.out _ H1.out).size ((Below.refl w1.heap.size w1).alloc (Nat.le_refl _) (.cells #[.int .i64 fi, .int .u8 (fa.toNat : Int), .string fs, .int .i64 fc, .slice B q dd, .bool false] 44))
        have HA := Lib.hid (show ChgsIn (w1.alloc (.cells #[.int .i64 fi, .int .u8 (fa.toNat : Int), .string fs, .int .i64 fc, .slice B q dd, .bool false] 44)) (some ⟨w1.heap.size, 0, none⟩) 1 [⟨⟨fi, fa, fs, fc⟩, fv, false⟩] from chgs_one1 (k := ⟨fi, fa, fs, fc⟩) (x := fv) (by rw [H.out.2.2.2.2.2]; exact hbk) H.out.2.2.2.1 (H.out.2.2.2.2.1.below hbw) (by rw [H.out.2.2.2.2.2]; exact hl1) hl2)
        have HBW := Lib.hid hbw
        clear hbk hbw
        go_wp2_with fail
        generalize w1.alloc (.cells #[.int .i64 fi, .int .u8 (fa.toNat : Int), .string fs, .int .i64 fc, .slice B q dd, .bool false] 44) = w2 at *
        refine (dApply_any w2 A n d l (ListIn.below fct_len (by decide) H.out.1 HBW.out) _ 1 1 _ HA.out (fun c hc => by simp at hc; rw [hc]; have := H.out.2.2.2.2.2; dsimp only; omega) (by omega)).mono ?_
        rintro e3 w3 ⟨v3, rfl, ho3, hb3⟩
        rw [HL2.out.1, HL2.out.2.1] at ho3
        obtain ⟨A3, c3', rfl, hin3, hl3, hm3, _⟩ := OwnL.listIn fct_len ho3
        have H3 := Lib.hid (And.intro hin3 (below_then HBW.out HBW.out.size hb3))
        clear ho3 hin3 hb3 c0 c1 c2 c3 c4
        have hcA := shCut_code s (itsL l) 1
        have hcB := shCut_code s (itsL L2) 1
        have HPA := Lib.hid (leaves_any w3 s A n d l (ListIn.below fct_len (by decide) H.out.1 H3.out.2) H.out.2.2.1 hn)
        have HPB := Lib.hid (fun w4 (hb : Below w3.heap.size w3 w4) => leaves_any w4 s A3 N c3' L2 (ListIn.below fct_len (by decide) H3.out.1 hb) HL2.out.2.2.1 (by omega))
        obtain ⟨⟨xa, ea⟩, hra⟩ : ∃ r, leavesS s l = r := ⟨_, rfl⟩
        obtain ⟨⟨xb, eb⟩, hrb⟩ : ∃ r, leavesS s L2 = r := ⟨_, rfl⟩
        change (leavesS s l).2 ≤ 3 at hcA
        change (leavesS s L2).2 ≤ 3 at hcB
        rw [hra] at HPA hcA
        rw [hrb] at HPB hcB
        dsimp only at hcA hcB
        obtain ⟨ma, hma⟩ : ∃ m, xa.length = m := ⟨_, rfl⟩
        obtain ⟨mb, hmb⟩ : ∃ m, xb.length = m := ⟨_, rfl⟩
        have HR := Lib.hid (And.intro hra (And.intro hrb (And.intro hma hmb)))
        clear hra hrb hma hmb
        go_wp2_with fail
        refine HPA.out.mono ?_
        rintro e4 w4 ⟨v4, rfl, ho4, hb4⟩
        obtain ⟨A4, c4', rfl, hrv4, hl4, hm4⟩ := OwnI.slice ho4
        dsimp only at hrv4 hl4 ⊢
        rw [HR.out.2.2.1] at hl4 ⊢
        have H4 := Lib.hid (And.intro hrv4 hb4)
        clear ho4 hrv4 hb4
        go_wp2_with fail
        refine (HPB.out w4 H4.out.2).mono ?_
        rintro e5 w5 ⟨v5, rfl, ho5, hb5⟩
        obtain ⟨A5, c5', rfl, hrv5, hl5, hm5⟩ := OwnI.slice ho5
        dsimp only at hrv5 hl5 ⊢
        rw [HR.out.2.2.2] at hl5 ⊢
        have hb35 := below_then H4.out.2 H4.out.2.size hb5
        have hbw5 := below_then H3.out.2 H3.out.2.size hb35
        have H5 := Lib.hid (And.intro (H4.out.1.below hb5) (And.intro hrv5 (And.intro hb35 hbw5)))
        clear ho5 hrv5 hb5 hb35 hbw5
        by_cases hea : ea = 0
        · have t4 : ((ea : Int) != 0) = false := by rw [hea]; rfl
          by_cases heb : eb = 0
          · have t5 : ((eb : Int) != 0) = false := by rw [heb]; rfl
            have hA := leavesS_ok (s := s) (l := l) (by rw [HR.out.1]; exact hea)
            have hB := leavesS_ok (s := s) (l := L2) (by rw [HR.out.2.1]; exact heb)
            have hsA := leaves_starts (s := s) (l := l) (by rw [HR.out.1]; exact hea)
            have hsB := leaves_starts (s := s) (l := L2) (by rw [HR.out.2.1]; exact heb)
            rw [HR.out.1] at hA hsA
            rw [HR.out.2.1] at hB hsB
            dsimp only at hA hB hsA hsB
            have hord : ordB l = true := by
              have := hA.2.1.2
              rw [List.map_map] at this
              rw [← ordB_keys]
              exact this
            have hnear := near_two ⟨⟨fi, fa, fs, fc⟩, fv⟩ hord
            rw [← HL2.out.2.2.2 hord] at hnear
            have hla := cuts_lens hA.2.2.2
            have hlb := cuts_lens hB.2.2.2
            have hsn : xa.sum = n := by rw [hA.2.2.1]; exact H.out.2.1
            have hsN : xb.sum = N := by rw [hB.2.2.1]; exact HL2.out.2.1
            rw [HR.out.2.2.1, hsn] at hla
            rw [HR.out.2.2.2, hsN] at hlb
            have HFA := Lib.hid (fun w6 (hb : Below w5.heap.size w5 w6) => full16_any w6 A n d l (ListIn.below fct_len (by decide) H.out.1 (below_then H5.out.2.2.2 H5.out.2.2.2.size hb)) hn A4 ma c4' xa (H5.out.1.below hb) HR.out.2.2.1 hsn hA.2.2.2 hla)
            have HFB := Lib.hid (fun w6 (hb : Below w5.heap.size w5 w6) => full16_any w6 A3 N c3' L2 (ListIn.below fct_len (by decide) H3.out.1 (below_then H5.out.2.2.1 H5.out.2.2.1.size hb)) (by omega) A5 mb c5' xb (H5.out.2.1.below hb) HR.out.2.2.2 hsN hB.2.2.2 hlb)
            have HSA := Lib.hid (fun w6 (hb : Below w5.heap.size w5 w6) => starts16_any w6 A n d l (ListIn.below fct_len (by decide) H.out.1 (below_then H5.out.2.2.2 H5.out.2.2.2.size hb)) hn A4 ma c4' xa (H5.out.1.below hb) HR.out.2.2.1 hsn hA.2.2.2 hla)
            have HSB := Lib.hid (fun w6 (hb : Below w5.heap.size w5 w6) => starts16_any w6 A3 N c3' L2 (ListIn.below fct_len (by decide) H3.out.1 (below_then H5.out.2.2.1 H5.out.2.2.1.size hb)) (by omega) A5 mb c5' xb (H5.out.2.1.below hb) HR.out.2.2.2 hsN hB.2.2.2 hlb)
            generalize l.map (·.key) = KA at *
            generalize L2.map (·.key) = KB at *
            obtain ⟨fA, hfA⟩ : ∃ r, flGo KA 0 xa = r := ⟨_, rfl⟩
            obtain ⟨fB, hfB⟩ : ∃ r, flGo KB 0 xb = r := ⟨_, rfl⟩
            rw [hfA] at HFA hsA
            rw [hfB] at HFB hsB
            have HSS := Lib.hid (And.intro hsA (And.intro hsB hnear))
            clear hA hB hord hsn hsN hfA hfB hsA hsB hnear
            go_wp2_with fail
            refine (HFA.out w5 (Below.refl _ _)).mono ?_
            rintro e6 w6 ⟨rfl, hb6⟩
            have H6 := Lib.hid hb6
            clear hb6
            cases fA with
            | true =>
              have HZ := Lib.hid (below_then H5.out.2.2.2 H5.out.2.2.2.size H6.out)
              go_wp2_with fail
              refine (HLV.out _).mono ?_
              rintro e9 w9 ⟨rfl, hb9⟩
              have H9 := Lib.hid (below_then HZ.out HZ.out.size hb9)
              clear hb9
              go_wp2_with fail
              go_ret
              exact ⟨rfl, H9.out⟩
            | false =>
              go_wp2_with fail
              refine (HFB.out w6 H6.out).mono ?_
              rintro e7 w7 ⟨rfl, hb7⟩
              have H7 := Lib.hid (below_then H6.out H6.out.size hb7)
              clear hb7
              cases fB with
              | true =>
                have HZ := Lib.hid (below_then H5.out.2.2.2 H5.out.2.2.2.size H7.out)
                go_wp2_with fail
                refine (HLV.out _).mono ?_
                rintro e9 w9 ⟨rfl, hb9⟩
                have H9 := Lib.hid (below_then HZ.out HZ.out.size hb9)
                clear hb9
                go_wp2_with fail
                go_ret
                exact ⟨rfl, H9.out⟩
              | false =>
                have hsA := HSS.out.1 (by simp)
                have hsB := HSS.out.2.1 (by simp)
                rw [hsA] at HSA
                rw [hsB] at HSB
                have hnear := HSS.out.2.2
                generalize stk true KA = X at *
                generalize stk true KB = Y at *
                have HNR := Lib.hid hnear
                clear hsA hsB hnear HSS
                go_wp2_with fail
                refine (HSA.out w7 H7.out).mono ?_
                rintro e8 w8 ⟨v8, rfl, ho8, hb8⟩
                have hxl := ho8.len
                obtain ⟨A8, c8, rfl, hin8, hl8, hm8, _⟩ := OwnL.listIn ky_len ho8
                have H8 := Lib.hid (And.intro hin8 (And.intro (below_then H7.out H7.out.size hb8) hxl))
                clear ho8 hin8 hb8 hxl
                go_wp2_with fail
                refine (HSB.out w8 H8.out.2.1).mono ?_
                rintro e9 w9 ⟨v9, rfl, ho9, hb9⟩
                have hyl := ho9.len
                obtain ⟨A9, c9, rfl, hin9, hl9, hm9, _⟩ := OwnL.listIn ky_len ho9
                have H9 := Lib.hid (And.intro (ListIn.below ky_len (by decide) H8.out.1 hb9) (And.intro hin9 (And.intro (below_then H5.out.2.2.2 H5.out.2.2.2.size (below_then H8.out.2.1 H8.out.2.1.size hb9)) (And.intro H8.out.2.2 hyl))))
                clear ho9 hin9 hb9 hyl
                have hyn := nots_len Y X
                have hxn := nots_len X Y
                rw [H9.out.2.2.2.1] at hyn
                rw [H9.out.2.2.2.2] at hxn
                go_wp2_with fail
                go_loopg [14, 15] ma (fun k t i wr => ∃ j : Nat, j + k = ma ∧ i = .int .i64 j ∧ t = .int .i64 (nots Y (X.take j) : Nat) ∧ Below w9.heap.size w9 wr)
                case atStart => exact ⟨0, by omega, rfl, rfl, Below.refl _ _⟩
                case round =>
                  obtain ⟨j, hj, rfl, rfl, hb⟩ := hrel
                  have HX := Lib.hid (And.intro hj hb)
                  clear hj hb
                  by_cases hlt : j < ma
                  · obtain ⟨k, hk⟩ : ∃ k, X[j]? = some k := ⟨_, List.getElem?_eq_getElem (by have := H9.out.2.2.2.1; omega)⟩
                    obtain ⟨okk, ad, hA, hblk, x0, x1, x2, x3⟩ := KeysIn.at_ H9.out.1 hk
                    subst hA
                    have up : ∀ {p : Addr} {u : Value}, w9.cell? p = some u → p.block < w9.heap.size → wr.cell? p = some u := fun hu hp => (World.cell?_of_block (HX.out.2.block _ hp)).trans hu
                    have p0 := up x0 hblk
                    have p1 := up x1 hblk
                    have p2 := up x2 hblk
                    have p3 := up x3 hblk
                    have hjm : (j : Int) < (ma : Int) := by omega
                    have hst := nots_snoc Y hk
                    have hle := nots_len Y (X.take j)
                    rw [List.length_take, H9.out.2.2.2.1] at hle
                    have HH := Lib.hid (has16_any wr A9 mb c9 Y (ListIn.below ky_len (by decide) H9.out.2.1 HX.out.2) (by omega) k)
                    clear x0 x1 x2 x3 up hk okk
                    generalize hcc : nots Y (X.take j) = cc at *
                    obtain ⟨b, hb⟩ : ∃ b, decide (k ∈ Y) = b := ⟨_, rfl⟩
                    rw [hb] at HH
                    have hst2 : nots Y (X.take (j + 1)) = cc + (if b = true then 0 else 1) := by
                      rw [hst, ← hb]
                      by_cases hky : k ∈ Y
                      · simp [hky]
                      · simp [hky]
                    have HST := Lib.hid hst2
                    clear hst hst2 hb hcc
                    obtain ⟨fi', fa', fs', fc'⟩ := k
                    unfold Ky.val at HH
                    dsimp only at p0 p1 p2 p3 HH
                    go_wp2_with fail
                    refine HH.out.mono ?_
                    rintro e10 w10 ⟨rfl, hb10⟩
                    have H10 := Lib.hid (below_then HX.out.2 HX.out.2.size hb10)
                    clear hb10 p0 p1 p2 p3
                    cases b with
                    | true =>
                      go_wp2_with fail
                      go_roundg (ma - (j + 1))
                      case measure => have := HX.out.1; omega
                      case rel => exact ⟨j + 1, by have := HX.out.1; omega, by go_num, by rw [HST.out]; rfl, H10.out⟩
                    | false =>
                      go_wp2_with fail
                      go_roundg (ma - (j + 1))
                      case measure => have := HX.out.1; omega
                      case rel => exact ⟨j + 1, by have := HX.out.1; omega, by go_num, by rw [HST.out, if_neg (by simp)]; go_num, H10.out⟩
                  · obtain rfl : j = ma := by have := HX.out.1; omega
                    have hge : ¬ (j : Int) < (j : Int) := by omega
                    have hxt : X.take j = X := List.take_of_length_le (by have := H9.out.2.2.2.1; omega)
                    rw [hxt]
                    obtain ⟨W8, rfl⟩ : ∃ W8, W8 = wr := ⟨_, rfl⟩
                    have HW := Lib.hid (And.intro (ListIn.below ky_len (by decide) H9.out.1 HX.out.2) (And.intro (ListIn.below ky_len (by decide) H9.out.2.1 HX.out.2) (below_then H9.out.2.2.1 H9.out.2.2.1.size HX.out.2)))
                    obtain ⟨n1, hn1⟩ : ∃ n1, nots Y X = n1 := ⟨_, rfl⟩
                    rw [hn1] at hyn HNR ⊢
                    clear hxt HX hn1
                    go_wp2_with fail
                    go_loopg [14, 16] mb (fun k t i wr => ∃ i' : Nat, i' + k = mb ∧ i = .int .i64 i' ∧ t = .int .i64 ((n1 + nots X (Y.take i') : Nat) : Int) ∧ Below W8.heap.size W8 wr)
                    case atStart => exact ⟨0, by omega, rfl, rfl, Below.refl _ _⟩
                    case round =>
                      obtain ⟨i', hj, rfl, rfl, hb⟩ := hrel
                      have HX := Lib.hid (And.intro hj hb)
                      clear hj hb
                      by_cases hlt2 : i' < mb
                      · obtain ⟨k, hk⟩ : ∃ k, Y[i']? = some k := ⟨_, List.getElem?_eq_getElem (by have := H9.out.2.2.2.2; omega)⟩
                        obtain ⟨okk, ad, hA, hblk, x0, x1, x2, x3⟩ := KeysIn.at_ HW.out.2.1 hk
                        subst hA
                        have up : ∀ {p : Addr} {u : Value}, W8.cell? p = some u → p.block < W8.heap.size → wr.cell? p = some u := fun hu hp => (World.cell?_of_block (HX.out.2.block _ hp)).trans hu
                        have p0 := up x0 hblk
                        have p1 := up x1 hblk
                        have p2 := up x2 hblk
                        have p3 := up x3 hblk
                        have hjm : (i' : Int) < (mb : Int) := by omega
                        have hst := nots_snoc X hk
                        have hle := nots_len X (Y.take i')
                        rw [List.length_take, H9.out.2.2.2.2] at hle
                        have HH := Lib.hid (has16_any wr A8 j c8 X (ListIn.below ky_len (by decide) HW.out.1 HX.out.2) (by omega) k)
                        clear x0 x1 x2 x3 up hk okk
                        generalize hcc : nots X (Y.take i') = cc at *
                        obtain ⟨b, hb⟩ : ∃ b, decide (k ∈ X) = b := ⟨_, rfl⟩
                        rw [hb] at HH
                        have hst2 : nots X (Y.take (i' + 1)) = cc + (if b = true then 0 else 1) := by
                          rw [hst, ← hb]
                          by_cases hky : k ∈ X
                          · simp [hky]
                          · simp [hky]
                        have HST := Lib.hid hst2
                        clear hst hst2 hb hcc
                        obtain ⟨fi', fa', fs', fc'⟩ := k
                        unfold Ky.val at HH
                        dsimp only at p0 p1 p2 p3 HH
                        go_wp2_with fail
                        refine HH.out.mono ?_
                        rintro e10 w10 ⟨rfl, hb10⟩
                        have H10 := Lib.hid (below_then HX.out.2 HX.out.2.size hb10)
                        clear hb10 p0 p1 p2 p3
                        cases b with
                        | true =>
                          go_wp2_with fail
                          go_roundg (mb - (i' + 1))
                          case measure => have := HX.out.1; omega
                          case rel => exact ⟨i' + 1, by have := HX.out.1; omega, by go_num, by rw [HST.out]; simp, H10.out⟩
                        | false =>
                          go_wp2_with fail
                          go_roundg (mb - (i' + 1))
                          case measure => have := HX.out.1; omega
                          case rel => exact ⟨i' + 1, by have := HX.out.1; omega, by go_num, by rw [HST.out, if_neg (by simp)]; go_num, H10.out⟩
                      · obtain rfl : i' = mb := by have := HX.out.1; omega
                        have hge2 : ¬ (i' : Int) < (i' : Int) := by omega
                        have hyt : Y.take i' = Y := List.take_of_length_le (by have := H9.out.2.2.2.2; omega)
                        rw [hyt]
                        obtain ⟨n2, hn2⟩ : ∃ n2, nots X Y = n2 := ⟨_, rfl⟩
                        rw [hn2] at HNR ⊢
                        have hle2 := HNR.out
                        have t6 : decide ((((n1 + n2 : Nat) : Int)) ≤ 2) = true := decide_eq_true (by omega)
                        have t7 : (((n1 + n2 : Nat) : Int)) ≤ 2 := by omega
                        have HZ := Lib.hid (below_then HW.out.2.2 HW.out.2.2.size HX.out.2)
                        obtain ⟨n3, hn3⟩ : ∃ n3, n1 + n2 = n3 := ⟨_, rfl⟩
                        rw [hn3] at t6 t7 ⊢
                        clear hyt hn2 hn3 HX
                        go_wp2_with fail
                        refine (HLV.out _).mono ?_
                        rintro e9 w9 ⟨rfl, hb9⟩
                        have H9 := Lib.hid (below_then HZ.out HZ.out.size hb9)
                        clear hb9
                        go_wp2_with fail
                        go_ret
                        exact ⟨rfl, H9.out⟩
          · have t5 : ((eb : Int) != 0) = true := by simp; omega
            have HZ := Lib.hid H5.out.2.2.2
            go_wp2_with fail
            refine (HLV.out _).mono ?_
            rintro e9 w9 ⟨rfl, hb9⟩
            have H9 := Lib.hid (below_then HZ.out HZ.out.size hb9)
            clear hb9
            go_wp2_with fail
            go_ret
            exact ⟨rfl, H9.out⟩
        · have t4 : ((ea : Int) != 0) = true := by simp; omega
          have HZ := Lib.hid H5.out.2.2.2
          go_wp2_with fail
          refine (HLV.out _).mono ?_
          rintro e9 w9 ⟨rfl, hb9⟩
          have H9 := Lib.hid (below_then HZ.out HZ.out.size hb9)
          clear hb9
          go_wp2_with fail
          go_ret
          exact ⟨rfl, H9.out⟩
  · rw [decide_eq_false hm] at HMK
    have HMK := Lib.hid HMK
    clear hm
    go_enter Try.func7, Try.ntmps7
    go_wp2_with fail
    generalize w.alloc (.cells #[.int .i64 fi, .int .u8 (fa.toNat : Int), .string fs, .int .i64 fc, .slice B q dd] 41) = w0 at *
    refine (HMK.out _).mono ?_
    rintro e1 w1 ⟨rfl, hb1⟩
    have H1 := Lib.hid (show Below w0.heap.size w0 w1 from hb1)
    have c4 := HUP.out w1 hb1 4
    simp at c4
    clear hb1 c0 c1 c2 c3
    have HZ := Lib.hid (BW.out _ H1.out)
    go_wp2_with fail
    refine (HLV.out _).mono ?_
    rintro e9 w9 ⟨rfl, hb9⟩
    have H9 := Lib.hid (below_then HZ.out HZ.out.size hb9)
    clear hb9
    go_wp2_with fail
    go_ret
    exact ⟨rfl, H9.out⟩
end Go.Proofs.Ytlioclicopakbaa
