import Derived.Test.YtlcdabmclcfagaaMPr
import Derived.Test.YtlcdabmclcfagaaPrSM
import Derived.Test.YtlcdabmclcfagaaNdIM
import Derived.Test.YtlcdabmclcfagaaRfNM
set_option linter.unusedVariables false
set_option linter.unusedSimpArgs false
/- Acts on both: played: contract. -/
namespace Go.Proofs.Ytlcdabmclcfagaa
open Go.RowKit

theorem pact_any {w : World} {base pb : Nat} {c : Chp} (h : PairS w base pb c) (x : Ac) (Ab : Option Addr) (db : Nat) (Ah : Option Addr) (dh : Nat) (hv : ActIn w base x Ab Ah) :
    Calls Try.prog 49 #[.pointer (some ⟨pb, 0, none⟩), .agg (actCells x Ab db Ah dh)] w (PactEnd w base pb (actS c x)) := by
  obtain ⟨a, r, F, F', hx⟩ := h
  by_cases h1 : x.do_ = 1
  · exact pact1 hx x h1 Ab db Ah dh hv
  · by_cases h2 : x.do_ = 2
    · exact pact2 hx x h2 Ab db Ah dh hv
    · by_cases h3 : x.do_ = 3
      · exact pact3 hx x h3 Ab db Ah dh
      · by_cases h4 : x.do_ = 4
        · exact pact4 hx x h4 Ab db Ah dh hv
        · by_cases h5 : x.do_ = 5
          · exact pact5 hx x h5 Ab db Ah dh
          · exact pact0 hx x h1 h2 h3 h4 h5 Ab db Ah dh
theorem below_same {B : Nat} {w0 w1 w2 : World} (h : Below B w0 w1) (k : Below B w1 w2) : Below B w0 w2 :=
  ⟨k.os.trans h.os, k.tape.trans h.tape, k.output.trans h.output, Nat.le_trans h.size k.size, fun i hi => (k.block i hi).trans (h.block i hi)⟩
/-- Acts, as they lie in memory. -/
def ActsP (w : World) (A : Option Addr) (l : List Ac) : Prop :=
  ∀ i x, l[i]? = some x → ∃ ad Ab db Ah dh, A = some ad ∧ (∀ k, k < 6 → w.cell? ((ad.add (i * 6)).add k) = (actCells x Ab db Ah dh)[k]?) ∧ ActIn w w.heap.size x Ab Ah
theorem ActsP.below {w w' : World} {A : Option Addr} {l : List Ac} (h : ActsP w A l) (hb : Below w.heap.size w w') : ActsP w' A l := by
  intro i x hi
  obtain ⟨ad, Ab, db, Ah, dh, hA, hc, hin⟩ := h i x hi
  refine ⟨ad, Ab, db, Ah, dh, hA, fun k hk => ?_, ⟨hin.rb.below hb, fun ad h1 h2 => Nat.lt_of_lt_of_le (hin.lb ad h1 h2) hb.size, hin.mb, hin.hp.keep (fun k _ hlt => hb.block k hlt) (fun k h _ => Nat.lt_of_lt_of_le h hb.size), hin.hm, hin.hk⟩⟩
  obtain ⟨u, hu⟩ : ∃ u, (actCells x Ab db Ah dh)[k]? = some u := ⟨_, Array.getElem?_eq_getElem hk⟩
  have h1 := (hc k hk).trans hu
  rw [hu]
  exact (World.cell?_of_block (hb.block _ (World.block_lt_of_cell? w _ h1))).trans h1
def playS (c : Chp) (l : List Ac) : Chp := (l.take 40).foldl actS c
theorem psame_s {w : World} {base pb : Nat} {c : Chp} (h : PairS w base pb c) :
    Calls Try.prog 30 #[.pointer (some ⟨pb, 0, none⟩)] w fun e w' => e = .returned (.bool true) ∧ Below w.heap.size w w' := by
  obtain ⟨a, r, F, F', hx⟩ := h
  have q0 := hx.p.cell 0
  have q1 := hx.p.cell 1
  simp at q0 q1
  exact psame_any hx.pc hx.rc q0 q1
theorem PairS.below {w w' : World} {base pb : Nat} {c : Chp} (h : PairS w base pb c) (hb : Below w.heap.size w w') : PairS w' base pb c := by
  obtain ⟨a, r, F, F', hx⟩ := h
  exact ⟨a, r, F, F', hx.below hb⟩
theorem PairS.base_le {w : World} {base pb : Nat} {c : Chp} (h : PairS w base pb c) : base ≤ w.heap.size := by
  obtain ⟨a, r, F, F', hx⟩ := h
  exact hx.base_le
def PlayedEnd (w : World) (B P S Sp : Int) (l : List Ac) (e : Ending) (w' : World) : Prop :=
  Below w.heap.size w w' ∧ (¬ mayG (cutB B) (cutP P) S Sp → e = .returned (.tuple #[.pointer none, .bool true])) ∧
  (mayG (cutB B) (cutP P) S Sp → ∃ pb, e = .returned (.tuple #[.pointer (some ⟨pb, 0, none⟩), .bool true]) ∧ PairS w' w.heap.size pb (playS (newS (cutB B).toNat (cutP P).toNat S.toNat Sp.toNat) l))
set_option maxRecDepth 100000 in
set_option maxHeartbeats 4000000 in
theorem played_any (w : World) (B P S Sp : Int) (A : Option Addr) (n d : Nat) (l : List Ac) (hn : l.length = n) (hl : ActsP w A l) (hm : n ≤ 140737488355328) :
    Calls Try.prog 21 #[.agg #[.int .i64 B, .int .i64 P, .int .i64 S, .int .i64 Sp], .slice A n d] w (PlayedEnd w B P S Sp l) := by
  have hB0 := Blk.new w 28 #[.int .i64 B, .int .i64 P, .int .i64 S, .int .i64 Sp]
  have hb0 := (Below.refl w.heap.size w).alloc (Nat.le_refl _) (.cells #[.int .i64 B, .int .i64 P, .int .i64 S, .int .i64 Sp] 28)
  have HWI := Lib.hid (within_any (w.alloc (.cells #[.int .i64 B, .int .i64 P, .int .i64 S, .int .i64 Sp] 28)) B P S Sp)
  have H := Lib.hid (And.intro hB0 (And.intro hb0 (And.intro hn hl)))
  unfold PlayedEnd
  generalize cutB B = B' at *
  generalize cutP P = P' at *
  clear hB0 hb0 hn hl
  go_enter Try.func21, Try.ntmps21
  go_wp2_with fail
  refine HWI.out.mono ?_
  rintro e w1 ⟨rfl, hb1⟩
  have hB1 := H.out.1.below hb1 H.out.1.lt
  have hb01 := below_then H.out.2.1 H.out.2.1.size hb1
  have f0 := hB1.frozen 0
  have f1 := hB1.frozen 1
  have f2 := hB1.frozen 2
  have f3 := hB1.frozen 3
  have k0 := hB1.cell 0
  have k1 := hB1.cell 1
  have k2 := hB1.cell 2
  have k3 := hB1.cell 3
  simp at k0 k1 k2 k3
  have H1 := Lib.hid (And.intro hB1 hb01)
  clear hB1 hb01 hb1
  go_wp2_with fail
  have hB2 := H1.out.1.set4 (.int .i64 B') (.int .i64 P') (.int .i64 S) (.int .i64 Sp)
  have hb2 := below_set4 H1.out.2 (g := w.heap.size) (Nat.le_refl _) (.int .i64 B') (.int .i64 P') (.int .i64 S) (.int .i64 Sp)
  generalize (((w1.setCell ⟨w.heap.size, 0, none⟩ (.int .i64 B')).setCell ⟨w.heap.size, 1, none⟩ (.int .i64 P')).setCell ⟨w.heap.size, 2, none⟩ (.int .i64 S)).setCell ⟨w.heap.size, 3, none⟩ (.int .i64 Sp) = w2 at *
  have H2 := Lib.hid (And.intro hB2 hb2)
  clear hB2 hb2 k0 k1 k2 k3 f0 f1 f2 f3
  refine (new_any w2 B' P' S Sp).mono ?_
  rintro e w3 ⟨hb3, hno, hyes⟩
  have hB3 := H2.out.1.below hb3 H2.out.1.lt
  have hb03 := below_then H2.out.2 H2.out.2.size hb3
  have k0 := hB3.cell 0
  have k1 := hB3.cell 1
  have k2 := hB3.cell 2
  have k3 := hB3.cell 3
  simp at k0 k1 k2 k3
  have HRN := Lib.hid (rnew_any w3 B' P' S Sp)
  by_cases hmay : mayG B' P' S Sp
  · obtain ⟨a, rfl, hpc⟩ := hyes hmay
    have H3 := Lib.hid (And.intro hB3 (And.intro hb03 (And.intro hpc (And.intro hmay (And.intro hb3.size H2.out.2.size)))))
    clear hB3 hb03 hpc hno hyes hb3 hmay
    go_wp2_with fail
    refine HRN.out.mono ?_
    rintro e w4 ⟨hb4, hno, hyes⟩
    obtain ⟨r, rfl, hrc⟩ := hyes H3.out.2.2.2.1
    have hb04 := below_then H3.out.2.1 H3.out.2.1.size hb4
    have hpc4 := H3.out.2.2.1.below hb4
    have hb5 := (Below.refl w4.heap.size w4).alloc (Nat.le_refl _) (.cells #[.pointer (some ⟨a, 0, none⟩), .pointer (some ⟨r, 0, none⟩)] 52)
    have hB5 := Blk.new w4 52 #[.pointer (some ⟨a, 0, none⟩), .pointer (some ⟨r, 0, none⟩)]
    have hb05 := below_then hb04 hb04.size hb5
    have hX : PairX (w4.alloc (.cells #[.pointer (some ⟨a, 0, none⟩), .pointer (some ⟨r, 0, none⟩)] 52)) w.heap.size w4.heap.size a r (fsh w2 w3) (fsh w3 w4) (newS B'.toNat P'.toNat S.toNat Sp.toNat) := by
      have hs := hb04.size
      have h23 := H3.out.2.2.2.2.1
      have h02 := H3.out.2.2.2.2.2
      have h34 := hb4.size
      refine ⟨hpc4.below hb5, hrc.below hb5, hB5, fun k hk => ?_, fun k hk => ?_, fun hk => ?_, fun hk => ?_, fun k hk hf => ?_, hs, fun x hx => (by cases hx)⟩
      · have := hk.1
        omega
      · have := hk.1
        omega
      · have := hk.2
        omega
      · have := hk.2
        omega
      · have := hk.2
        have := hf.1
        omega
    have H5 := Lib.hid (And.intro (show PairS _ _ _ _ from ⟨_, _, _, _, hX⟩) hb05)
    have H4 := Lib.hid H3.out.2.2.2.1
    clear hno hyes hrc hb04 hpc4 hb5 hB5 hb05 hX hb4 k0 k1 k2 k3
    go_wp2_with fail
    generalize w4.alloc (.cells #[.pointer (some ⟨a, 0, none⟩), .pointer (some ⟨r, 0, none⟩)] 52) = w5 at *
    generalize w4.heap.size = pb at *
    generalize hc0 : newS B'.toNat P'.toNat S.toNat Sp.toNat = c0 at *
    have HC0 := Lib.hid hc0
    clear hc0
    go_loopg [11] (min n 40) (fun k i wr => ∃ j : Nat, j + k = min n 40 ∧ i = .int .i64 j ∧ PairS wr w.heap.size pb ((l.take j).foldl actS c0) ∧ Below w.heap.size w wr)
    case atStart => exact ⟨0, by omega, rfl, H5.out.1, H5.out.2⟩
    case round =>
      obtain ⟨j, hj, rfl, hps, hbw⟩ := hrel
      have HX := Lib.hid (And.intro hj (And.intro hps hbw))
      clear hj hps hbw
      by_cases hlt : j < min n 40
      · obtain ⟨x, hx⟩ : ∃ x, l[j]? = some x := ⟨_, List.getElem?_eq_getElem (by have := H.out.2.2.1; omega)⟩
        have t1 : decide ((j : Int) < (n : Int)) = true := decide_eq_true (by omega)
        have t2 : decide ((j : Int) < 40) = true := decide_eq_true (by omega)
        have hjI : (j : Int) < (n : Int) := by omega
        have hjw : IntKind.i64.wrap ((j : Int) + 1) = (j : Int) + 1 := IntWalk.i64_in _ (by omega)
        obtain ⟨ad, Ab, db, Ah, dh, rfl, hcl, hin⟩ := H.out.2.2.2 j x hx
        have hmv : ∀ k, k < 6 → ∀ u, (actCells x Ab db Ah dh)[k]? = some u → wr.cell? ((ad.add (j * 6)).add k) = some u := fun k hk u hu => by
          have h1 := (hcl k hk).trans hu
          exact (World.cell?_of_block (HX.out.2.2.block _ (World.block_lt_of_cell? w _ h1))).trans h1
        have y0 : wr.cell? (ad.add (j * 6)) = some (.int .i64 x.do_) := hmv 0 (by decide) _ rfl
        have y1 : wr.cell? ⟨(ad.add (j * 6)).block, (ad.add (j * 6)).off + 1, none⟩ = some (.int .i64 x.block) := hmv 1 (by decide) _ rfl
        have y2 : wr.cell? ⟨(ad.add (j * 6)).block, (ad.add (j * 6)).off + 2, none⟩ = some (.int .i64 x.page) := hmv 2 (by decide) _ rfl
        have y3 : wr.cell? ⟨(ad.add (j * 6)).block, (ad.add (j * 6)).off + 3, none⟩ = some (.int .u8 (x.fill.toNat : Int)) := hmv 3 (by decide) _ rfl
        have y4 : wr.cell? ⟨(ad.add (j * 6)).block, (ad.add (j * 6)).off + 4, none⟩ = some (.slice Ab x.bytes.length db) := hmv 4 (by decide) _ rfl
        have y5 : wr.cell? ⟨(ad.add (j * 6)).block, (ad.add (j * 6)).off + 5, none⟩ = some (.slice Ah x.hits.length dh) := hmv 5 (by decide) _ rfl
        have HPA := Lib.hid (show Calls Try.prog 49 #[.pointer (some ⟨pb, 0, none⟩), .agg #[.int .i64 x.do_, .int .i64 x.block, .int .i64 x.page, .int .u8 (x.fill.toNat : Int), .slice Ab x.bytes.length db, .slice Ah x.hits.length dh]] wr _ from pact_any HX.out.2.1 x Ab db Ah dh (hin.belowB HX.out.2.2 (Nat.le_refl _)))
        have hfd : (l.take (j + 1)).foldl actS c0 = actS ((l.take j).foldl actS c0) x := by
          rw [List.take_add_one, hx, List.foldl_append]
          rfl
        rw [← hfd] at HPA
        have HV := Lib.hid hx
        clear hx hcl hin hmv hfd
        generalize x.bytes.length = nb at *
        generalize x.hits.length = nh at *
        generalize (x.fill.toNat : Int) = fl at *
        generalize x.do_ = dd at *
        generalize x.block = bk at *
        generalize x.page = pg at *
        go_wp2_with fail
        refine HPA.out.mono ?_
        rintro e w6 ⟨rfl, hp6, hb6⟩
        have H6 := Lib.hid (And.intro hp6 (below_same HX.out.2.2 hb6))
        clear hp6 hb6
        go_wp2_with fail
        go_roundg (min n 40 - (j + 1))
        case measure => have := HX.out.1; omega
        case rel => exact ⟨j + 1, by have := HX.out.1; omega, by go_num, H6.out.1, H6.out.2⟩
      · obtain rfl : j = min n 40 := by have := HX.out.1; omega
        have HSM := Lib.hid (psame_s HX.out.2.1)
        have hfd : (l.take (min n 40)).foldl actS c0 = playS c0 l := by
          unfold playS
          rcases Nat.le_total n 40 with h1 | h1
          · rw [Nat.min_eq_left h1, List.take_of_length_le (by have := H.out.2.2.1; omega), List.take_of_length_le (by have := H.out.2.2.1; omega)]
          · rw [Nat.min_eq_right h1]
        have HF := Lib.hid hfd
        clear hfd
        have hcase : ¬ ((min n 40 : Nat) : Int) < (n : Int) ∨ (((min n 40 : Nat) : Int) < (n : Int) ∧ ¬ ((min n 40 : Nat) : Int) < 40) := by omega
        generalize min n 40 = mm at *
        rcases hcase with hge | ⟨hge, hge2⟩
        · have t1 : decide ((mm : Int) < (n : Int)) = false := decide_eq_false hge
          go_wp2_with fail
          refine HSM.out.mono ?_
          rintro e w6 ⟨rfl, hb6⟩
          have H6 := Lib.hid (And.intro (HX.out.2.1.below hb6) (below_then HX.out.2.2 HX.out.2.2.size hb6))
          clear hb6
          go_wp2_with fail
          go_ret2
          rw [HC0.out, ← HF.out]
          exact ⟨H6.out.2, fun h => absurd H4.out h, fun _ => ⟨pb, rfl, H6.out.1⟩⟩
        · have t1 : decide ((mm : Int) < (n : Int)) = true := decide_eq_true hge
          have t2 : decide ((mm : Int) < 40) = false := decide_eq_false hge2
          go_wp2_with fail
          refine HSM.out.mono ?_
          rintro e w6 ⟨rfl, hb6⟩
          have H6 := Lib.hid (And.intro (HX.out.2.1.below hb6) (below_then HX.out.2.2 HX.out.2.2.size hb6))
          clear hb6
          go_wp2_with fail
          go_ret2
          rw [HC0.out, ← HF.out]
          exact ⟨H6.out.2, fun h => absurd H4.out h, fun _ => ⟨pb, rfl, H6.out.1⟩⟩
  · obtain rfl := hno hmay
    have H3 := Lib.hid (And.intro hb03 hmay)
    clear hB3 hb03 hno hyes hb3 hmay
    go_wp2_with fail
    refine HRN.out.mono ?_
    rintro e w4 ⟨hb4, hno, -⟩
    obtain rfl := hno H3.out.2
    have H4 := Lib.hid (below_then H3.out.1 H3.out.1.size hb4)
    clear hno hb4 k0 k1 k2 k3
    go_wp2_with fail
    go_ret2
    exact ⟨H4.out, fun _ => rfl, fun h => absurd h H3.out.2⟩
end Go.Proofs.Ytlcdabmclcfagaa
