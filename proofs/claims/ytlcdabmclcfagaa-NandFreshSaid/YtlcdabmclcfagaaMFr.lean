import Derived.Test.YtlcdabmclcfagaaPrAM
import Derived.Test.YtlcdabmclcfagaaPldM
import Derived.Test.YtlcdabmclcfagaaWorks03M
import Derived.Test.YtlcdabmclcfagaaMWL
import Derived.Test.YtlcdabmclcfagaaMSp
set_option linter.unusedVariables false
set_option linter.unusedSimpArgs false
/- A pair behind deeds: what is whose. -/
namespace Go.Proofs.Ytlcdabmclcfagaa
open Go.RowKit

section
variable {w w' : World} {base pb a r : Nat} {F F' : Nat → Prop} {c : Chp}
theorem PairX.off (h : PairX w base pb a r F F' c) {row : Option Nat} (hg : w.grownBy w' row) (hf : ∀ k, row = some k → ¬ F k ∧ ¬ F' k ∧ k ≠ pb) : PairX w' base pb a r F F' c := by
  have hk : ∀ k, k < w.heap.size → (F k ∨ F' k ∨ k = pb) → w'.heap[k]? = w.heap[k]? := fun k hlt hk => hg.block k hlt (fun e => by
    obtain ⟨h1, h2, h3⟩ := hf k e.symm
    rcases hk with hk | hk | hk
    · exact h1 hk
    · exact h2 hk
    · exact h3 hk)
  obtain ⟨L, hL⟩ := h.pc
  obtain ⟨L', hL'⟩ := h.rc
  exact ⟨⟨L, hL.keep (fun k hk' => hk k (hL.lt k hk') (.inl hk')) hg.size⟩, ⟨L', hL'.keep (fun k hk' => hk k (hL'.lt k hk') (.inr (.inl hk'))) hg.size⟩, h.p.heap (hk pb h.p.lt (.inr (.inr rfl))), h.fb, h.rb, h.pf, h.pr, h.dj, h.p0, h.mks⟩
theorem PairX.deedx {w1 w2 w3 : World} {c' : Chp} (h : PairX w base pb a r F F' c) (hb0 : Below w.heap.size w w1) (hp : PC w2 F a c') (ht : Tch F w1 w2) (hr : RC w3 F' r c') (ht' : Tch F' w2 w3) (hm : ∀ x ∈ c'.hits, x ∈ c.hits) : PairX w3 base pb a r F F' c' := by
  have hb1 := (h.below hb0)
  have hp2 : Blk w2 pb _ _ := hb1.p.heap (ht.block _ hb1.p.lt h.pf)
  have hp3 := hp2.heap (ht'.block _ hp2.lt h.pr)
  exact ⟨hp.tch ht' h.dj, hr, hp3, h.fb, h.rb, h.pf, h.pr, h.dj, h.p0, fun x hx => h.mks x (hm x hx)⟩
theorem PairX.deed2x {w1 w2 w3 : World} {c' : Chp} (h : PairX w base pb a r F F' c) (hb0 : Below w.heap.size w w1) (hp : PC w2 (grw F w1 w2) a c') (ht : Tch F w1 w2) (hr : RC w3 (grw F' w2 w3) r c') (ht' : Tch F' w2 w3) (hm : ∀ x ∈ c'.hits, x.mask.length ≤ 140737488351232) : PairX w3 base pb a r (grw F w1 w2) (grw F' w2 w3) c' := by
  have hb1 := (h.below hb0)
  have hp2 : Blk w2 pb _ _ := hb1.p.heap (ht.block _ hb1.p.lt h.pf)
  have hp3 := hp2.heap (ht'.block _ hp2.lt h.pr)
  have hpl := hb1.p.lt
  have hfl := hb1.pc.lt
  have hrl := hb1.rc.lt
  have hs := ht.size
  have hbl := hb1.base_le
  have hdf : ∀ k, grw F w1 w2 k → ¬ F' k := fun k hk hf => by
    rcases hk with hk | hk
    · exact h.dj k hk hf
    · have := hrl k hf
      omega
  refine ⟨hp.tch ht' hdf, hr, hp3, ?_, ?_, ?_, ?_, ?_, h.p0, hm⟩
  · rintro k (hk | hk)
    · exact h.fb k hk
    · omega
  · rintro k (hk | hk)
    · exact h.rb k hk
    · omega
  · rintro (hk | hk)
    · exact h.pf hk
    · omega
  · rintro (hk | hk)
    · exact h.pr hk
    · omega
  · rintro k hk (hf | hf)
    · exact hdf k hk hf
    · rcases hk with hk | hk
      · have := hfl k hk
        omega
      · omega
theorem hit_lit (w2 : World) (Bv : Option Addr) (n d : Nat) (ms : List UInt8) (hn : ms.length = n) (hr : RV w2 Bv (bv ms)) (ok : Nat → Prop) (h0 : ok w2.heap.size) (hB : ∀ bd, Bv = some bd → 0 < n → ok bd.block) (hd : n ≤ d) (hm : d ≤ maxLen) :
    HitsP (w2.alloc (.cells #[.int .i64 1, .bool false, .slice Bv n d] 36)) ok (some ⟨w2.heap.size, 0, none⟩) [⟨1, false, ms⟩] := by
  have hBk := Blk.new w2 36 #[.int .i64 1, .bool false, .slice Bv n d]
  have hr' := hr.alloc (.cells #[.int .i64 1, .bool false, .slice Bv n d] 36)
  subst hn
  intro i x hi
  match i, hi with
  | 0, hi =>
    obtain rfl : (⟨1, false, ms⟩ : Htt) = x := by simpa using hi
    exact ⟨_, _, d, rfl, h0, hBk.cell 0, hBk.cell 1, hBk.cell 2, hr', fun bd hb h1 => hB bd hb h1, hd, hm⟩
  | i + 1, hi => simp at hi
/-- The program's Hits, of one hit that lies in new memory. -/
theorem px_hits {w2 : World} (h : PairX w2 base pb a r F F' c) (Bv : Option Addr) (n d : Nat) (ms : List UInt8) (hn : ms.length = n) (hr : RV w2 Bv (bv ms)) (hB : ∀ bd, Bv = some bd → 0 < n → ¬ F bd.block) (hd : n ≤ d) (hm : d ≤ maxLen) (hR : n ≤ 140737488351232) :
    Calls Try.prog 15 #[.pointer (some ⟨a, 0, none⟩), .slice (some ⟨w2.heap.size, 0, none⟩) 1 1] (w2.alloc (.cells #[.int .i64 1, .bool false, .slice Bv n d] 36)) (HitsEnd (w2.alloc (.cells #[.int .i64 1, .bool false, .slice Bv n d] 36)) F a (hitsS c [⟨1, false, ms⟩])) := by
  have hl := hit_lit w2 Bv n d ms hn hr (fun k => ¬ F k) (fun hf => Nat.lt_irrefl _ (h.pc.lt _ hf)) hB hd hm
  obtain ⟨L, hL⟩ := (h.pc).below ((Below.refl w2.heap.size w2).alloc (Nat.le_refl _) (.cells #[.int .i64 1, .bool false, .slice Bv n d] 36))
  exact hits_pc hL _ 1 1 _ hl rfl (by decide) (fun x hx => by simp at hx; subst hx; show ms.length ≤ _; omega)
theorem px_strike {w2 : World} (hrc : RC w2 F' r c) (Bv : Option Addr) (n d : Nat) (ms : List UInt8) (hn : ms.length = n) (hr : RV w2 Bv (bv ms)) (hB : ∀ bd, Bv = some bd → 0 < n → ¬ F' bd.block) (hd : n ≤ d) (hm : d ≤ maxLen) (hR : n ≤ 140737488351232) :
    Calls Try.prog 26 #[.pointer (some ⟨r, 0, none⟩), .slice (some ⟨w2.heap.size, 0, none⟩) 1 1] (w2.alloc (.cells #[.int .i64 1, .bool false, .slice Bv n d] 36)) (RHitsEnd (w2.alloc (.cells #[.int .i64 1, .bool false, .slice Bv n d] 36)) F' r (hitsS c [⟨1, false, ms⟩])) := by
  have hl := hit_lit w2 Bv n d ms hn hr (fun k => ¬ F' k) (fun hf => Nat.lt_irrefl _ (hrc.lt _ hf)) hB hd hm
  obtain ⟨L, hL⟩ := hrc.below ((Below.refl w2.heap.size w2).alloc (Nat.le_refl _) (.cells #[.int .i64 1, .bool false, .slice Bv n d] 36))
  exact rstrike_any hL _ 1 1 _ hl rfl (by decide) (fun x hx => by simp at hx; subst hx; show ms.length ≤ _; omega)
end
end Go.Proofs.Ytlcdabmclcfagaa

/- NandFresh: the walk. -/
namespace Go.Proofs.Ytlcdabmclcfagaa
open Go.RowKit

theorem wide_at (w : World) (A : Option Addr) (c n : Nat) (xs : List UInt8) (hn : xs.length = n) (hr : RV w A (bv xs)) (hx : n ≤ 140737488355328) :
    Calls Try.prog 25 #[.slice A n c] w fun e w' => ∃ g, e = .returned (.slice (some ⟨g, 0, none⟩) n (n + 3)) ∧ w.heap.size ≤ g ∧ RowB 5 w' g (xs ++ [7, 7, 7]) ∧ Below w.heap.size w w' := by
  subst hn
  exact wide_any w A c xs hr hx
theorem left_at (w : World) (g : Nat) (B : Option Addr) (d n : Nat) (xs : List UInt8) (hn : xs.length = n) (hr : RowB 5 w g (xs ++ [7, 7, 7])) (hb : RV w B (bv xs)) (hx : n ≤ 140737488355328) :
    Calls Try.prog 27 #[.slice (some ⟨g, 0, none⟩) n (n + 3), .slice B n d] w fun e w' => e = .returned (.bool true) ∧ Drawn w w' := by
  subst hn
  exact left_yes w g B d xs hr hb hx
theorem RowB.rvPre {w : World} {g : Nat} {xs m : List UInt8} (h : RowB 5 w g (xs ++ m)) : RV w (some ⟨g, 0, none⟩) (bv xs) := by
  have := h.rv.take xs.length
  rwa [← bv_take, List.take_left] at this
set_option maxRecDepth 100000 in
set_option maxHeartbeats 2000000 in
theorem walkNandFresh (w : World) (B P S Sp : Int) (A : Option Addr) (c0 : Nat) (l : List Ac) (hl : ActsP w A l) (hR : l.length * 80 ≤ 140737488351232) (Am : Option Addr) (cm : Nat) (ms : List UInt8) (hrm : RV w Am (bv ms)) (hlm : ms.length ≤ cm) (hmm : cm ≤ maxLen) (hRm : ms.length ≤ 140737488351232) :
    Calls Try.prog 7 #[.agg #[.int .i64 B, .int .i64 P, .int .i64 S, .int .i64 Sp], .slice A l.length c0, .slice Am ms.length cm] w fun e w' => e = .returned (.bool true) ∧ Below w.heap.size w w' := by
  have hb0 := (Below.refl w.heap.size w).alloc (Nat.le_refl _) (.cells #[.int .i64 B, .int .i64 P, .int .i64 S, .int .i64 Sp] 28)
  have HP := Lib.hid (played_any (w.alloc (.cells #[.int .i64 B, .int .i64 P, .int .i64 S, .int .i64 Sp] 28)) B P S Sp A l.length c0 l rfl (hl.below hb0) (by omega))
  have hamlt : ∀ ad, Am = some ad → 0 < ms.length → ad.block < w.heap.size := fun ad h1 h2 => hrm.lt h1 (by rwa [bv_length])
  have HM := Lib.hid (And.intro hrm hamlt)
  have H0 := Lib.hid hb0
  obtain ⟨mn, hmn⟩ : ∃ mn, ms.length = mn := ⟨_, rfl⟩
  rw [hmn] at hlm hRm HM ⊢
  have HMN := Lib.hid hmn
  clear hl hb0 hrm hamlt hmn
  generalize l.length = n at *
  go_enter Try.func7, Try.ntmps7
  go_wp2_with fail
  refine HP.out.mono ?_
  rintro e w1 ⟨hb1, hno, hyes⟩
  have hsz0 : (w.alloc (.cells #[.int .i64 B, .int .i64 P, .int .i64 S, .int .i64 Sp] 28)).heap.size = w.heap.size + 1 := alloc_sz _ _
  have H1 := Lib.hid (below_then H0.out H0.out.size hb1)
  by_cases hm : mayG (cutB B) (cutP P) S Sp
  · obtain ⟨pb, rfl, hps⟩ := hyes hm
    rw [hsz0] at hps
    generalize playS (newS (cutB B).toNat (cutP P).toNat S.toNat Sp.toNat) l = c at *
    obtain ⟨a, r, F, F', hX⟩ := hps
    have hXlt := hX.pc.lt
    have hXlt' := hX.rc.lt
    have hbase : w.heap.size + 1 ≤ w1.heap.size := hX.base_le
    have HX := Lib.hid (And.intro hX (And.intro hXlt hXlt'))
    clear hyes hno hb1 hsz0 hm hX hXlt hXlt'
    go_wp2_with fail
    refine (wide_at w1 Am cm mn ms HMN.out (HM.out.1.below H1.out) (by omega)).mono ?_
    rintro e w2 ⟨gv, rfl, hgv, hrowv, hb2⟩
    have hX2 := HX.out.1.below hb2
    have hlt2 := hrowv.lt
    have q2 := hX2.p.cell 0
    simp at q2
    have H2 := Lib.hid (And.intro hX2 (And.intro hrowv (And.intro hb2 (And.intro hgv hlt2))))
    have hgvF : ¬ F gv ∧ ¬ F' gv := ⟨fun hf => by have := HX.out.2.1 _ hf; omega, fun hf => by have := HX.out.2.2 _ hf; omega⟩
    have HG := Lib.hid hgvF
    clear hX2 hrowv hb2 hgv hlt2 hgvF
    have hA : Below w2.heap.size w2 (w2.alloc (.cells #[.int .i64 1, .bool false, .slice (some ⟨gv, 0, none⟩) mn (mn + 3)] 36)) := (Below.refl w2.heap.size w2).alloc (Nat.le_refl _) _
    have hsA : (w2.alloc (.cells #[.int .i64 1, .bool false, .slice (some ⟨gv, 0, none⟩) mn (mn + 3)] 36)).heap.size = w2.heap.size + 1 := alloc_sz _ _
    have q2a : (w2.alloc (.cells #[.int .i64 1, .bool false, .slice (some ⟨gv, 0, none⟩) mn (mn + 3)] 36)).cell? ⟨pb, 0, none⟩ = some (.pointer (some ⟨a, 0, none⟩)) := (H2.out.1.below hA).p.cell 0
    have HAA := Lib.hid (And.intro hA hsA)
    clear hA hsA
    go_wp2_with fail
    clear q2a
    have hA := HAA.out.1
    have hsA := HAA.out.2
    clear HAA
    refine (px_hits H2.out.1 (some ⟨gv, 0, none⟩) mn (mn + 3) ms HMN.out H2.out.2.1.rvPre (fun bd h _ => by injection h with h; subst h; exact HG.out.1) (by omega) (by unfold maxLen at hmm ⊢; omega) hRm).mono ?_
    rintro e wB ⟨rfl, hpcB, htB⟩
    generalize w2.alloc (.cells #[.int .i64 1, .bool false, .slice (some ⟨gv, 0, none⟩) mn (mn + 3)] 36) = wA at *
    have hXA := H2.out.1.below hA
    have hrcB := hXA.rc.tch htB (fun k h1 h2 => HX.out.1.dj k h2 h1)
    have hrowB := (H2.out.2.1.belowAll hA).heap (htB.block gv (Nat.lt_of_lt_of_le H2.out.2.2.2.2 hA.size) HG.out.1)
    have hamB : RV wB Am (bv ms) := ((HM.out.1.below (below_then H1.out H1.out.size (below_then H2.out.2.2.1 H2.out.2.2.1.size hA))).tch htB (fun ad h1 h2 hf => by have := HX.out.1.fb _ hf; have := HM.out.2 ad h1 (by rw [bv_length, HMN.out] at h2; exact h2); omega))
    have qB := (hXA.p.heap (htB.block _ hXA.p.lt HX.out.1.pf)).cell 1
    simp at qB
    have HB := Lib.hid (And.intro hpcB (And.intro htB (And.intro hrcB (And.intro hrowB (And.intro hamB (And.intro hA hsA))))))
    clear hpcB htB hXA hrcB hrowB hamB hA hsA q2
    generalize (hitsS c [⟨1, false, ms⟩]).2 = hn1 at *
    go_wp2_with fail
    have hC : Below wB.heap.size wB (wB.alloc (.cells #[.int .i64 1, .bool false, .slice Am mn cm] 36)) := (Below.refl wB.heap.size wB).alloc (Nat.le_refl _) _
    refine (px_strike HB.out.2.2.1 Am mn cm ms HMN.out HB.out.2.2.2.2.1 (fun bd h h0 hf => by have := HX.out.1.rb _ hf; have := HM.out.2 bd h h0; omega) hlm hmm hRm).mono ?_
    rintro e wD ⟨rfl, hrcD, htD⟩
    generalize wB.alloc (.cells #[.int .i64 1, .bool false, .slice Am mn cm] 36) = wC at *
    have htAC : Tch F wA wC := HB.out.2.1.then (Tch.of_below hC) (fun _ _ h => h)
    have hpcC : PC wC (grw F wA wC) a (hitsS c [⟨1, false, ms⟩]).1 := by
      obtain ⟨Lp, hLp⟩ := HB.out.1.below hC
      refine ⟨Lp, hLp.mono (fun k hk => ?_) (fun k hk => ?_)⟩
      · rcases hk with hk | hk
        · exact .inl hk
        · exact .inr ⟨hk.1, Nat.lt_of_lt_of_le hk.2 hC.size⟩
      · rcases hk with hk | hk
        · have h1 := HX.out.2.1 _ hk
          have h2 := H2.out.2.2.1.size
          have h3 := HB.out.2.2.2.2.2.1.size
          have h4 := HB.out.2.1.size
          have h5 := hC.size
          omega
        · exact hk.2
    have hXD := H2.out.1.deed2x HB.out.2.2.2.2.2.1 hpcC htAC hrcD htD (hitsS_mk _ _ HX.out.1.mks (fun x hx => by simp at hx; subst hx; show ms.length ≤ _; rw [HMN.out]; exact hRm))
    have hbAD : Below (w.heap.size + 1) wA wD := below_same (htAC.below HX.out.1.fb (by have := HB.out.2.2.2.2.2.1.size; have := H2.out.2.2.1.size; omega)) (htD.below HX.out.1.rb (by have := HB.out.2.2.2.2.2.1.size; have := H2.out.2.2.1.size; have := htAC.size; omega))
    have hrowC := HB.out.2.2.2.1.belowAll hC
    have hrowD := hrowC.heap (htD.block gv hrowC.lt HG.out.2)
    have hamC := HB.out.2.2.2.2.1.below hC
    have hamD := hamC.tch htD (fun ad h1 h2 hf => by have := HX.out.1.rb _ hf; have := HM.out.2 ad h1 (by rw [bv_length, HMN.out] at h2; exact h2); omega)
    have hbwD : Below w.heap.size w wD := by
      have e1 := below_then H1.out H1.out.size (below_then H2.out.2.2.1 H2.out.2.2.1.size HB.out.2.2.2.2.2.1)
      exact below_same e1 ⟨hbAD.os, hbAD.tape, hbAD.output, hbAD.size, fun k hk => hbAD.block k (by omega)⟩
    have hgvN : (¬ grw F wA wC gv ∧ ¬ grw F' wC wD gv ∧ gv ≠ pb) ∧ w.heap.size ≤ gv := by
      have h1 := H2.out.2.2.2.2
      have h2 := HB.out.2.2.2.2.2.1.size
      have h3 := htAC.size
      refine ⟨⟨?_, ?_, ?_⟩, by have := H2.out.2.2.2.1; omega⟩
      · rintro (hk | hk)
        · exact HG.out.1 hk
        · have := hk.1
          omega
      · rintro (hk | hk)
        · exact HG.out.2 hk
        · have := hk.1
          omega
      · have h4 := HX.out.1.p.lt
        have h5 := H2.out.2.2.2.1
        omega
    have HDD := Lib.hid (And.intro hXD (And.intro hrowD (And.intro hamD (And.intro hbwD hgvN))))
    clear hrcD htD hC htAC hpcC hXD hbAD hrowC hrowD hamC hamD hbwD hgvN qB
    generalize grw F wA wC = G at *
    generalize grw F' wC wD = G' at *
    generalize (hitsS c [⟨1, false, ms⟩]).2 = hn2 at *
    generalize (hitsS c [⟨1, false, ms⟩]).1 = c1 at *
    clear HB HG H2 HX
    go_wp2_with fail
    refine (left_at wD gv Am cm mn ms HMN.out HDD.out.2.1 HDD.out.2.2.1 (by omega)).mono ?_
    rintro e wE ⟨rfl, hdE⟩
    have HE := Lib.hid (And.intro (HDD.out.1.below (hdE.below _)) (And.intro (HDD.out.2.1.belowAll (hdE.below _)) (below_then HDD.out.2.2.2.1 HDD.out.2.2.2.1.size (hdE.below _))))
    clear hdE
    go_wp2_with fail
    refine (spoil_at wE gv mn (mn + 3) (ms ++ [7, 7, 7]) 1 1 rfl HE.out.2.1 (by rw [List.length_append, HMN.out]; rfl) (by unfold maxLen; omega) (by omega)).mono ?_
    rintro e wF ⟨rfl, -, hgF⟩
    have hXF := HE.out.1.off hgF (fun k e => by injection e with e; subst e; exact HDD.out.2.2.2.2.1)
    have hbF := HE.out.2.2.grown hgF HE.out.2.2.size (fun k e => by injection e with e; have := HDD.out.2.2.2.2.2; omega)
    have hsF : w.heap.size + 1 ≤ wF.heap.size := hXF.base_le
    have q0 := hXF.p.cell 0
    simp at q0
    have HF := Lib.hid (And.intro hXF (And.intro hbF (And.intro hXF.pc.lt (And.intro hXF.rc.lt hXF.p.lt))))
    clear hgF hXF hbF
    go_wp2_with fail
    obtain ⟨La, hLa⟩ := HF.out.1.pc
    refine (read_pc hLa 0 0).mono ?_
    rintro e wG ⟨v1, rfl, ho1, hb1⟩
    have HH := Lib.hid (And.intro ho1 (And.intro (HF.out.1.below hb1) (below_then HF.out.2.1 HF.out.2.1.size hb1)))
    clear ho1 hb1 hLa q0
    go_wp2_with fail
    refine (spoil_own wG wF.heap.size v1 _ 1 1 rfl HH.out.1).mono ?_
    rintro e wH ⟨rfl, hgH⟩
    have hXH := HH.out.2.1.off hgH (fun k e => by
      have h1 := (HH.out.1.blk e).1
      exact ⟨fun hf => by have := HF.out.2.2.1 _ hf; omega, fun hf => by have := HF.out.2.2.2.1 _ hf; omega, fun hf => by have := HF.out.2.2.2.2; omega⟩)
    have hbH := HH.out.2.2.grown hgH HH.out.2.2.size (fun k e => by have h1 := (HH.out.1.blk e).1; omega)
    have q0 := hXH.p.cell 0
    simp at q0
    have HI := Lib.hid (And.intro hXH (And.intro hbH (And.intro hXH.pc.lt (And.intro hXH.rc.lt hXH.p.lt))))
    have hsH : w.heap.size + 1 ≤ wH.heap.size := hXH.base_le
    clear hgH hXH hbH
    go_wp2_with fail
    obtain ⟨La, hLa⟩ := HI.out.1.pc
    refine (bytes_pc hLa).mono ?_
    rintro e wI ⟨v2, rfl, ho2, hb2⟩
    have HJ := Lib.hid (And.intro ho2 (And.intro (HI.out.1.below hb2) (below_then HI.out.2.1 HI.out.2.1.size hb2)))
    clear ho2 hb2 hLa q0
    go_wp2_with fail
    refine (spoil_own wI wH.heap.size v2 _ 1 1 rfl HJ.out.1).mono ?_
    rintro e wK ⟨rfl, hgK⟩
    have hXK := HJ.out.2.1.off hgK (fun k e => by
      have h1 := (HJ.out.1.blk e).1
      exact ⟨fun hf => by have := HI.out.2.2.1 _ hf; omega, fun hf => by have := HI.out.2.2.2.1 _ hf; omega, fun hf => by have := HI.out.2.2.2.2; omega⟩)
    have hbK := HJ.out.2.2.grown hgK HJ.out.2.2.size (fun k e => by have h1 := (HJ.out.1.blk e).1; omega)
    have q1 := hXK.p.cell 1
    simp at q1
    obtain ⟨Lr, hLr⟩ := hXK.rc
    have q2 := hLr.cells.2.2.1
    have hS2 := hXK.rc.ok.s2
    have HK := Lib.hid (And.intro hXK (And.intro hbK (And.intro hXK.pc.lt hXK.rc.lt)))
    obtain ⟨SS, hSS⟩ : ∃ SS, c1.S = SS := ⟨_, rfl⟩
    rw [hSS] at q2 hS2
    have HMB := make_bytes (P := Try.prog) 22 5 Try.underlying22 u8info SS (by omega)
    have hrowW := RowB.made wK 5 SS
    have hbW := (Below.refl wK.heap.size wK).alloc (Nat.le_refl _) (.cells (madeCells #[.int .u8 0] SS) 5)
    have HL := Lib.hid (And.intro hrowW (And.intro (hXK.below hbW) (And.intro (below_then hbK hbK.size hbW) hbW)))
    clear hgK hXK hbK hrowW hbW hLr hSS
    go_wp2_with fail
    clear HMB q1 q2
    generalize wK.alloc (.cells (madeCells #[.int .u8 0] SS) 5) = wL at *
    refine (wide_at wL (some ⟨wK.heap.size, 0, none⟩) SS SS (List.replicate SS 0) List.length_replicate HL.out.1.rv (by omega)).mono ?_
    rintro e wM ⟨gu, rfl, hgu, hrowU, hbM⟩
    have HMM := Lib.hid (And.intro hgu (And.intro hrowU (And.intro (HL.out.1.belowAll hbM) (And.intro (HL.out.2.1.below hbM) (below_then HL.out.2.2.1 HL.out.2.2.1.size hbM)))))
    clear hgu hrowU hbM
    have hGw : ∀ k, wK.heap.size ≤ k → ¬ G k ∧ ¬ G' k := fun k hk => ⟨fun hf => by have := HK.out.2.2.1 _ hf; omega, fun hf => by have := HK.out.2.2.2 _ hf; omega⟩
    have HGW := Lib.hid (And.intro (hGw wK.heap.size (Nat.le_refl _)) (hGw gu (by have := HMM.out.1; have := HL.out.2.2.2.size; omega)))
    clear hGw
    generalize hzz : (List.replicate SS (0 : UInt8)) = zz at *
    have HZ := Lib.hid (show zz.length = SS by rw [← hzz]; exact List.length_replicate)
    clear hzz
    generalize wK.heap.size = gw at *
    clear HDD HE HF HH HI HJ HL
    go_wp2_with fail
    go_loopg [15] 3 (fun k i wr => ∃ (j : Nat) (c2 : Chp), j + k = 3 ∧ i = .int .i64 j ∧ PairX wr (w.heap.size + 1) pb a r G G' c2 ∧ RowB 5 wr gw zz ∧ RowB 5 wr gu (zz ++ [7, 7, 7]) ∧ Below w.heap.size w wr)
    case atStart => exact ⟨0, c1, rfl, rfl, HMM.out.2.2.2.1, HMM.out.2.2.1, HMM.out.2.1, HMM.out.2.2.2.2⟩
    case round =>
      obtain ⟨j, c2, hj, rfl, hX, hrw, hru, hbw⟩ := hrel
      have HX := Lib.hid (And.intro hj (And.intro hX (And.intro hrw (And.intro hru hbw))))
      clear hj hX hrw hru hbw
      by_cases hlt : j < 3
      · have hltI : (j : Int) < 3 := by omega
        have t1 : decide ((j : Int) < 3) = true := decide_eq_true hltI
        have hjw : IntKind.i64.wrap ((j : Int) + 1) = (j : Int) + 1 := IntWalk.i64_in _ (by omega)
        obtain ⟨R, hR⟩ : ∃ R, programS c2 (j : Int) 3 zz = R := ⟨_, rfl⟩
        have HC := Lib.hid (show ∀ w', Tch (fun k => G k ∨ G' k) wr w' → (fun w' : World => w'.cell? ⟨pb, 0, none⟩ = some (.pointer (some ⟨a, 0, none⟩)) ∧ w'.cell? ⟨pb, 1, none⟩ = some (.pointer (some ⟨r, 0, none⟩))) w' from fun w' ht => by
          have hp := HX.out.2.1.p.heap (ht.block _ HX.out.2.1.p.lt (fun hf => hf.elim HX.out.2.1.pf HX.out.2.1.pr))
          exact ⟨hp.cell 0, hp.cell 1⟩)
        have HRR := Lib.hid hR
        clear hR
        go_wp2_with fail
        refine wp_region_G (fun w' : World => w'.cell? ⟨pb, 0, none⟩ = some (.pointer (some ⟨a, 0, none⟩)) ∧ w'.cell? ⟨pb, 1, none⟩ = some (.pointer (some ⟨r, 0, none⟩))) 20 21 #[false, false, false, false, false, false, false, false, false, false, false, false, false, false, false, false, false, false, false, false, false] (by kernel_rfl) rfl (by kernel_rfl) ?_
        have hbd := (Below.refl wr.heap.size wr).drew
        generalize wr.drew = w3 at *
        have hS0 : (fun w' : World => w'.cell? ⟨pb, 0, none⟩ = some (.pointer (some ⟨a, 0, none⟩)) ∧ w'.cell? ⟨pb, 1, none⟩ = some (.pointer (some ⟨r, 0, none⟩))) w3 := HC.out w3 (Tch.of_below hbd)
        dsimp only at hS0
        have hX3 := HX.out.2.1.below hbd
        have H3 := Lib.hid (And.intro hbd (And.intro hX3 (And.intro (HX.out.2.2.1.belowAll hbd) (HX.out.2.2.2.1.belowAll hbd))))
        clear hbd
        refine wpAnyG_takeL (i := 0) (v := ?v1) (fuel := 20) (listed' := #[true, false, false, false, false, false, false, false, false, false, false, false, false, false, false, false, false, false, false, false, false]) rfl (by kernel_rfl) (fun _ _ _ h => h) (.inl ⟨by rfl, ?hy1⟩) (by assumption) (by kernel_rfl) ?rest1
        case hy1 => (intro w' hSw; (try dsimp only at hSw); go_simp; try with_reducible rfl)
        try simp only [Act.put, List.setIfInBounds_toArray, List.set_cons_zero, List.set_cons_succ]
        refine wpAnyG_takeL (i := 1) (v := ?v2) (fuel := 19) (listed' := #[true, true, false, false, false, false, false, false, false, false, false, false, false, false, false, false, false, false, false, false, false]) rfl (by kernel_rfl) (fun _ _ _ h => h) (.inl ⟨by rfl, ?hy2⟩) (by assumption) (by kernel_rfl) ?rest2
        case hy2 => (intro w' hSw; (try dsimp only at hSw); go_simp; try with_reducible rfl)
        try simp only [Act.put, List.setIfInBounds_toArray, List.set_cons_zero, List.set_cons_succ]
        refine wpAnyG_takeL (i := 2) (v := ?v3) (fuel := 18) (listed' := #[true, true, true, false, false, false, false, false, false, false, false, false, false, false, false, false, false, false, false, false, false]) rfl (by kernel_rfl) (fun _ _ _ h => h) (.inl ⟨by rfl, ?hy3⟩) (by assumption) (by kernel_rfl) ?rest3
        case hy3 => (intro w' hSw; (try dsimp only at hSw); go_simp; try with_reducible rfl)
        try simp only [Act.put, List.setIfInBounds_toArray, List.set_cons_zero, List.set_cons_succ]
        refine wpAnyG_takeL (i := 3) (v := ?v4) (fuel := 17) (listed' := #[true, true, true, true, false, false, false, false, false, false, false, false, false, false, false, false, false, false, false, false, false]) rfl (by kernel_rfl) (fun _ _ _ h => h) (.inl ⟨by rfl, ?hy4⟩) (by assumption) (by kernel_rfl) ?rest4
        case hy4 => (intro w' hSw; (try dsimp only at hSw); go_simp; try with_reducible rfl)
        try simp only [Act.put, List.setIfInBounds_toArray, List.set_cons_zero, List.set_cons_succ]
        refine wpAnyG_takeL (i := 4) (v := ?v5) (fuel := 16) (listed' := #[true, true, true, true, true, false, false, false, false, false, false, false, false, false, false, false, false, false, false, false, false]) rfl (by kernel_rfl) (fun _ _ _ h => h) (.inl ⟨by rfl, ?hy5⟩) (by assumption) (by kernel_rfl) ?rest5
        case hy5 => (intro w' hSw; (try dsimp only at hSw); go_simp; try with_reducible rfl)
        try simp only [Act.put, List.setIfInBounds_toArray, List.set_cons_zero, List.set_cons_succ]
        refine wpAnyG_takeL (i := 5) (v := ?v6) (fuel := 15) (listed' := #[true, true, true, true, true, true, false, false, false, false, false, false, false, false, false, false, false, false, false, false, false]) rfl (by kernel_rfl) (fun _ _ _ h => h) (.inl ⟨by rfl, ?hy6⟩) (by assumption) (by kernel_rfl) ?rest6
        case hy6 => (intro w' hSw; (try dsimp only at hSw); go_simp; try with_reducible rfl)
        try simp only [Act.put, List.setIfInBounds_toArray, List.set_cons_zero, List.set_cons_succ]
        refine wpAnyG_takeL (i := 7) (v := ?v7) (fuel := 14) (listed' := #[true, true, true, true, true, true, false, true, false, false, false, false, false, false, false, false, false, false, false, false, false]) rfl (by kernel_rfl) (fun _ _ _ h => h) (.inl ⟨by rfl, ?hy7⟩) (by assumption) (by kernel_rfl) ?rest7
        case hy7 => (intro w' hSw; (try dsimp only at hSw); go_simp; try with_reducible rfl)
        try simp only [Act.put, List.setIfInBounds_toArray, List.set_cons_zero, List.set_cons_succ]
        refine wpAnyG_takeL (i := 8) (v := ?v8) (fuel := 13) (listed' := #[true, true, true, true, true, true, false, true, true, false, false, false, false, false, false, false, false, false, false, false, false]) rfl (by kernel_rfl) (fun _ _ _ h => h) (.inl ⟨by rfl, ?hy8⟩) (by assumption) (by kernel_rfl) ?rest8
        case hy8 => (intro w' hSw; (try dsimp only at hSw); go_simp; try with_reducible rfl)
        try simp only [Act.put, List.setIfInBounds_toArray, List.set_cons_zero, List.set_cons_succ]
        refine wpAnyG_takeL (i := 9) (v := ?v9) (fuel := 12) (listed' := #[true, true, true, true, true, true, false, true, true, true, false, false, false, false, false, false, false, false, false, false, false]) rfl (by kernel_rfl) (fun _ _ _ h => h) (.inl ⟨by rfl, ?hy9⟩) (by assumption) (by kernel_rfl) ?rest9
        case hy9 => (intro w' hSw; (try dsimp only at hSw); go_simp; try with_reducible rfl)
        try simp only [Act.put, List.setIfInBounds_toArray, List.set_cons_zero, List.set_cons_succ]
        refine wpAnyG_takeL (i := 10) (v := ?v10) (fuel := 11) (listed' := #[true, true, true, true, true, true, false, true, true, true, true, false, false, false, false, false, false, false, false, false, false]) rfl (by kernel_rfl) (fun _ _ _ h => h) (.inl ⟨by rfl, ?hy10⟩) (by assumption) (by kernel_rfl) ?rest10
        case hy10 => (intro w' hSw; (try dsimp only at hSw); go_simp; try with_reducible rfl)
        try simp only [Act.put, List.setIfInBounds_toArray, List.set_cons_zero, List.set_cons_succ]
        refine wpAnyG_takeL (i := 11) (v := ?v11) (fuel := 10) (listed' := #[true, true, true, true, true, true, false, true, true, true, true, true, false, false, false, false, false, false, false, false, false]) rfl (by kernel_rfl) (fun _ _ _ h => h) (.inl ⟨by rfl, ?hy11⟩) (by assumption) (by kernel_rfl) ?rest11
        case hy11 => (intro w' hSw; (try dsimp only at hSw); go_simp; try with_reducible rfl)
        try simp only [Act.put, List.setIfInBounds_toArray, List.set_cons_zero, List.set_cons_succ]
        refine wpAnyG_takeL (i := 12) (v := ?v12) (fuel := 9) (listed' := #[true, true, true, true, true, true, false, true, true, true, true, true, true, false, false, false, false, false, false, false, false]) rfl (by kernel_rfl) (fun _ _ _ h => h) (.inl ⟨by rfl, ?hy12⟩) (by assumption) (by kernel_rfl) ?rest12
        case hy12 => (intro w' hSw; (try dsimp only at hSw); go_simp; try with_reducible rfl)
        try simp only [Act.put, List.setIfInBounds_toArray, List.set_cons_zero, List.set_cons_succ]
        obtain ⟨La, hLa⟩ := hX3.pc
        have hpr := program_pc hLa (j : Int) 3 (some ⟨gu, 0, none⟩) SS (SS + 3) zz HZ.out H3.out.2.2.2.rvPre (fun ad hA _ => by injection hA with hA; subst hA; exact HGW.out.2.1)
        rw [HRR.out] at hpr
        have HPR := Lib.hid hpr
        clear hpr hLa hX3
        refine wpAnyG_oneL (i := 6) (fuel := 8) (listed' := #[true, true, true, true, true, true, true, true, true, true, true, true, true, false, false, false, false, false, false, false, false]) rfl (by kernel_rfl) (by kernel_rfl) (by rfl) (fun K hK0 => ?_)
        have hK := Lib.hid hK0
        clear hK0
        go_simp
        refine HPR.out.mono ?_
        rintro e w5 ⟨rfl, hpc5, ht5⟩
        have hrw5 := H3.out.2.2.1.heap (ht5.block _ H3.out.2.2.1.lt HGW.out.1.1)
        have hru5 := H3.out.2.2.2.heap (ht5.block _ H3.out.2.2.2.lt HGW.out.2.1)
        have H5 := Lib.hid (And.intro hpc5 (And.intro ht5 (And.intro hrw5 hru5)))
        clear hpc5 ht5 hrw5 hru5
        have hS5 : (fun w' : World => w'.cell? ⟨pb, 0, none⟩ = some (.pointer (some ⟨a, 0, none⟩)) ∧ w'.cell? ⟨pb, 1, none⟩ = some (.pointer (some ⟨r, 0, none⟩))) w5 := HC.out w5 ((Tch.of_below H3.out.1).then (H5.out.2.1.mono (fun k h => .inl h)) (fun _ _ h => h))
        refine hK.out _ _ (.inl (hS5)) ?_
        clear hK K
        try simp only [Act.put, List.setIfInBounds_toArray, List.set_cons_zero, List.set_cons_succ]
        clear hS0
        have hS0 := hS5
        dsimp only at hS0
        obtain ⟨Lr5, hLr5⟩ := H3.out.2.1.rc.tch H5.out.2.1 (fun k h1 h2 => HX.out.2.1.dj k h2 h1)
        have hrp := rprogram_any hLr5 (fun y hy => Nat.le_trans (HX.out.2.1.mks y hy) (by decide)) (j : Int) 3 (some ⟨gw, 0, none⟩) SS SS zz HZ.out H5.out.2.2.1.rv (fun ad hA _ => by injection hA with hA; subst hA; exact HGW.out.1.2)
        rw [HRR.out] at hrp
        have HRP := Lib.hid hrp
        clear hrp hLr5 hS5
        refine wpAnyG_oneL (i := 13) (fuel := 7) (listed' := #[true, true, true, true, true, true, true, true, true, true, true, true, true, true, false, false, false, false, false, false, false]) rfl (by kernel_rfl) (by kernel_rfl) (by rfl) (fun K hK0 => ?_)
        have hK := Lib.hid hK0
        clear hK0
        go_simp
        refine HRP.out.mono ?_
        rintro e w6 ⟨rfl, hrc6, ht6⟩
        have hrw6 := H5.out.2.2.1.heap (ht6.block _ H5.out.2.2.1.lt HGW.out.1.2)
        have hru6 := H5.out.2.2.2.heap (ht6.block _ H5.out.2.2.2.lt HGW.out.2.2)
        have H6 := Lib.hid (And.intro hrc6 (And.intro ht6 (And.intro hrw6 hru6)))
        have hS6 : (fun w' : World => w'.cell? ⟨pb, 0, none⟩ = some (.pointer (some ⟨a, 0, none⟩)) ∧ w'.cell? ⟨pb, 1, none⟩ = some (.pointer (some ⟨r, 0, none⟩))) w6 := HC.out w6 (((Tch.of_below H3.out.1).then (H5.out.2.1.mono (fun k h => .inl h)) (fun _ _ h => h)).then (H6.out.2.1.mono (fun k h => .inr h)) (fun _ _ h => h))
        clear hrc6 ht6 hrw6 hru6
        refine hK.out _ _ (.inl (hS6)) ?_
        clear hK K
        try simp only [Act.put, List.setIfInBounds_toArray, List.set_cons_zero, List.set_cons_succ]
        clear hS0
        have hS0 := hS6
        dsimp only at hS0
        have hbs : Below (w.heap.size + 1) w3 w6 := below_same (H5.out.2.1.below HX.out.2.1.fb H3.out.2.1.base_le) (H6.out.2.1.below HX.out.2.1.rb (Nat.le_trans H3.out.2.1.base_le H5.out.2.1.size))
        have hb06 : Below w.heap.size w w6 := below_same (below_then HX.out.2.2.2.2 HX.out.2.2.2.2.size H3.out.1) ⟨hbs.os, hbs.tape, hbs.output, hbs.size, fun k hk => hbs.block k (by omega)⟩
        have hX6 := HX.out.2.1.deedx H3.out.1 H5.out.1 H5.out.2.1 H6.out.1 H6.out.2.1 (by rw [← HRR.out]; exact programS_sub _ _ _ _)
        have H7 := Lib.hid (And.intro hX6 (And.intro H6.out.2.2.1 (And.intro H6.out.2.2.2 hb06)))
        clear hbs hb06 hX6 hS6
        generalize R.2 = rn at *
        have hrn : ((rn : Int) != (rn : Int)) = false := by simp
        refine wpAnyG_takeL (i := 14) (v := ?v13) (fuel := 6) (listed' := #[true, true, true, true, true, true, true, true, true, true, true, true, true, true, true, false, false, false, false, false, false]) rfl (by kernel_rfl) (fun _ _ _ h => h) (.inl ⟨by rfl, ?hy13⟩) (by assumption) (by kernel_rfl) ?rest13
        case hy13 => (intro w' hSw; (try dsimp only at hSw); go_simp; try with_reducible rfl)
        try simp only [Act.put, List.setIfInBounds_toArray, List.set_cons_zero, List.set_cons_succ]
        try rw [hrn]
        refine wpAnyG_takeL (i := 15) (v := ?v14) (fuel := 5) (listed' := #[true, true, true, true, true, true, true, true, true, true, true, true, true, true, true, true, false, false, false, false, false]) rfl (by kernel_rfl) (fun _ _ _ h => h) (.inl ⟨by rfl, ?hy14⟩) (by assumption) (by kernel_rfl) ?rest14
        case hy14 => (intro w' hSw; (try dsimp only at hSw); go_simp; try with_reducible rfl)
        try simp only [Act.put, List.setIfInBounds_toArray, List.set_cons_zero, List.set_cons_succ]
        refine wpAnyG_takeL (i := 16) (v := ?v15) (fuel := 4) (listed' := #[true, true, true, true, true, true, true, true, true, true, true, true, true, true, true, true, true, false, false, false, false]) rfl (by kernel_rfl) (fun _ _ _ h => h) (.inl ⟨by rfl, ?hy15⟩) (by assumption) (by kernel_rfl) ?rest15
        case hy15 => (intro w' hSw; (try dsimp only at hSw); go_simp; try with_reducible rfl)
        try simp only [Act.put, List.setIfInBounds_toArray, List.set_cons_zero, List.set_cons_succ]
        refine wpAnyG_takeL (i := 17) (v := ?v16) (fuel := 3) (listed' := #[true, true, true, true, true, true, true, true, true, true, true, true, true, true, true, true, true, true, false, false, false]) rfl (by kernel_rfl) (fun _ _ _ h => h) (.inl ⟨by rfl, ?hy16⟩) (by assumption) (by kernel_rfl) ?rest16
        case hy16 => (intro w' hSw; (try dsimp only at hSw); go_simp; try with_reducible rfl)
        try simp only [Act.put, List.setIfInBounds_toArray, List.set_cons_zero, List.set_cons_succ]
        refine wpAnyG_oneL (i := 18) (fuel := 2) (listed' := #[true, true, true, true, true, true, true, true, true, true, true, true, true, true, true, true, true, true, true, false, false]) rfl (by kernel_rfl) (by kernel_rfl) (by rfl) (fun K hK0 => ?_)
        have hK := Lib.hid hK0
        clear hK0
        go_simp
        refine (left_at w6 gu (some ⟨gw, 0, none⟩) SS SS zz HZ.out H7.out.2.2.1 H7.out.2.1.rv (by omega)).mono ?_
        rintro e w8 ⟨rfl, hd8⟩
        have hb8 := hd8.below w6.heap.size
        have H8 := Lib.hid (And.intro (H7.out.1.below hb8) (And.intro (H7.out.2.1.belowAll hb8) (And.intro (H7.out.2.2.1.belowAll hb8) (And.intro (below_then H7.out.2.2.2 H7.out.2.2.2.size hb8) (show (fun w' : World => w'.cell? ⟨pb, 0, none⟩ = some (.pointer (some ⟨a, 0, none⟩)) ∧ w'.cell? ⟨pb, 1, none⟩ = some (.pointer (some ⟨r, 0, none⟩))) w8 from ⟨(H7.out.1.below hb8).p.cell 0, (H7.out.1.below hb8).p.cell 1⟩)))))
        clear hd8 hb8
        refine hK.out _ _ (.inl (H8.out.2.2.2.2)) ?_
        clear hK K
        try simp only [Act.put, List.setIfInBounds_toArray, List.set_cons_zero, List.set_cons_succ]
        clear hS0
        have hS0 := H8.out.2.2.2.2
        dsimp only at hS0
        refine wpAnyG_takeL (i := 19) (v := ?v17) (fuel := 1) (listed' := #[true, true, true, true, true, true, true, true, true, true, true, true, true, true, true, true, true, true, true, true, false]) rfl (by kernel_rfl) (fun _ _ _ h => h) (.inl ⟨by rfl, ?hy17⟩) (by assumption) (by kernel_rfl) ?rest17
        case hy17 => (intro w' hSw; (try dsimp only at hSw); go_simp; try with_reducible rfl)
        try simp only [Act.put, List.setIfInBounds_toArray, List.set_cons_zero, List.set_cons_succ]
        refine wpAnyG_oneL (i := 20) (fuel := 0) (listed' := #[true, true, true, true, true, true, true, true, true, true, true, true, true, true, true, true, true, true, true, true, true]) rfl (by kernel_rfl) (by kernel_rfl) (by rfl) (fun K hK0 => ?_)
        have hK := Lib.hid hK0
        clear hK0
        go_simp
        refine hK.out _ _ (.inr (by decide)) ?_
        clear hK K
        refine wpAnyG_done (by kernel_rfl) ?_ _
        clear hS0
        go_wp2_with fail
        go_roundg (3 - (j + 1))
        case measure => have := HX.out.1; omega
        case rel => exact ⟨j + 1, _, by have := HX.out.1; omega, by go_num, H8.out.1, H8.out.2.1, H8.out.2.2.1, H8.out.2.2.2.1⟩
      · obtain rfl : j = 3 := by have := HX.out.1; omega
        have t1 : decide (((3 : Nat) : Int) < 3) = false := by decide
        have HSM := Lib.hid (psame_s ⟨_, _, _, _, HX.out.2.1⟩)
        go_wp2_with fail
        refine HSM.out.mono ?_
        rintro e w6 ⟨rfl, hb6⟩
        have HW := Lib.hid (works_any w6)
        have H6 := Lib.hid (below_then HX.out.2.2.2.2 HX.out.2.2.2.2.size hb6)
        clear hb6
        go_wp2_with fail
        refine HW.out.mono ?_
        rintro e w7 ⟨rfl, hb7⟩
        have H7 := Lib.hid (below_then H6.out H6.out.size hb7)
        clear hb7
        go_wp2_with fail
        go_ret
        exact ⟨rfl, H7.out⟩
  · obtain rfl := hno hm
    have HW := Lib.hid (works_any w1)
    clear hyes hno hb1
    go_wp2_with fail
    refine HW.out.mono ?_
    rintro e w2 ⟨rfl, hb2⟩
    have H2 := Lib.hid (below_then H1.out H1.out.size hb2)
    clear hb2
    go_wp2_with fail
    go_ret
    exact ⟨rfl, H2.out⟩
end Go.Proofs.Ytlcdabmclcfagaa
