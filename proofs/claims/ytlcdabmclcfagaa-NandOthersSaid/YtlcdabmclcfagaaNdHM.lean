import Derived.Test.YtlcdabmclcfagaaNdPM
import Derived.Test.YtlcdabmclcfagaaNdOM
import Derived.Test.YtlcdabmclcfagaaMOrd
set_option linter.unusedVariables false
set_option linter.unusedSimpArgs false
/- Layer 3: Hits: contract. -/
namespace Go.Proofs.Ytlcdabmclcfagaa
open Go.RowKit

set_option maxRecDepth 100000 in
set_option maxHeartbeats 400000 in
theorem clone_any (w : World) (A : Option Addr) (n c : Nat) (xs : List UInt8) (hn : xs.length = n) (hr : RV w A (bv xs)) (hx : n ≤ 140737488355328) :
    Calls Try.prog 40 #[.slice A n c] w fun e w' => ∃ v, e = .returned v ∧ OwnB 5 w' w.heap.size v xs ∧ Below w.heap.size w w' := by
  cases A with
  | some ad => exact clone_ok w ad n c xs hn hr hx
  | none =>
    have h0 : xs = [] := by
      rcases Nat.eq_zero_or_pos xs.length with h | h
      · exact List.eq_nil_of_length_eq_zero h
      · obtain ⟨_, h1, _⟩ := hr (by rwa [bv_length])
        cases h1
    have H0 := Lib.hid h0
    clear h0 hr
    go_enter Try.func40, Try.ntmps40
    go_wp2_with fail
    rw [Lib.run_eql_slice_nil w 22 5 _ _ _ _ _ Try.underlying22]
    simp only [Option.isNone_none]
    go_wp2_with fail
    go_ret
    rw [H0.out]
    exact ⟨_, rfl, OwnB.nil _ _ _, Below.refl _ _⟩
theorem hits1_any (w : World) (af : Int) (fl : Bool) (Bv : Option Addr) (m d : Nat) :
    Calls Try.prog 43 #[.agg #[.int .i64 af, .bool fl, .slice Bv m d]] w fun e w' => e = .returned (.bool (decide (af < 0))) ∧ Below w.heap.size w w' := by
  have hB := Blk.new w 36 #[.int .i64 af, .bool fl, .slice Bv m d]
  have k0 := hB.cell 0
  simp at k0
  clear hB
  go_enter Try.func43, Try.ntmps43
  go_wp2_with fail
  go_ret
  exact ⟨rfl, (Below.refl _ _).alloc (Nat.le_refl _) _⟩
theorem enter_H : ∀ args w, (callFunc 43 args).run Try.prog w = .ok (.enter 43 args) w := fun args w => run_enter Try.func43 (by kernel_rfl) rfl args w
def anyNeg (l : List Htt) : Bool := l.any fun h => decide (h.after < 0)
theorem HitsP.below {w w' : World} {ok : Nat → Prop} {A : Option Addr} {l : List Htt} (h : HitsP w ok A l) (hb : Below w.heap.size w w') : HitsP w' ok A l := h.keep (fun k _ hk => hb.block k hk) (fun k h _ => h)

set_option maxRecDepth 100000 in
set_option maxHeartbeats 1000000 in
theorem index_any (w : World) (ok : Nat → Prop) (A : Option Addr) (n d : Nat) (l : List Htt) (h : HitsP w ok A l) (hn : l.length = n) (hm : n ≤ 140737488355328) :
    Calls Try.prog 58 #[.slice A n d, .func (.func 43) #[] #[]] w fun e w' => ∃ r : Int, e = .returned (.int .i64 r) ∧ decide (0 ≤ r) = anyNeg l ∧ Below w.heap.size w w' := by
  have H := Lib.hid (And.intro h hn)
  have HE := Lib.hid enter_H
  clear h hn
  go_enter Try.func58, Try.ntmps58
  go_wp2_with fail
  go_loopg [8] n (fun k i wr => ∃ j : Nat, j + k = n ∧ i = .int .i64 j ∧ Below w.heap.size w wr ∧ anyNeg (l.take j) = false)
  case atStart => exact ⟨0, by omega, rfl, Below.refl _ _, rfl⟩
  case round =>
    obtain ⟨j, hj, rfl, hb, hall⟩ := hrel
    have HX := Lib.hid (And.intro hj (And.intro hb hall))
    clear hj hb hall
    by_cases hlt : j < n
    · obtain ⟨x, hx⟩ : ∃ x, l[j]? = some x := ⟨_, List.getElem?_eq_getElem (by have := H.out.2; omega)⟩
      obtain ⟨ad, Bv, dd, hA, _, y0, y1, y2, _, _, _, _⟩ := (H.out.1.below HX.out.2.1) j x hx
      subst hA
      have hjI : (j : Int) < (n : Int) := by omega
      have htk : anyNeg (l.take (j + 1)) = decide (x.after < 0) := by
        have h1 := HX.out.2.2
        unfold anyNeg at h1 ⊢
        rw [List.take_add_one, hx, List.any_append, h1]
        simp
      have hany : x.after < 0 → anyNeg l = true := fun hneg => List.any_eq_true.2 ⟨x, List.mem_of_getElem? hx, decide_eq_true hneg⟩
      have HV := Lib.hid (And.intro htk hany)
      obtain ⟨af, fl, mk⟩ := x
      dsimp only at y0 y1 y2 HV
      have z1 : wr.cell? ⟨(ad.add (j * 3)).block, (ad.add (j * 3)).off + 1, none⟩ = some (.bool fl) := y1
      have z2 : wr.cell? ⟨(ad.add (j * 3)).block, (ad.add (j * 3)).off + 2, none⟩ = some (.slice Bv mk.length dd) := y2
      generalize mk.length = M at *
      clear y1 y2 hx htk hany
      go_wp2_with fail
      refine (hits1_any wr af fl Bv M dd).mono ?_
      rintro e w2 ⟨rfl, hb2⟩
      have H2 := Lib.hid (below_then HX.out.2.1 HX.out.2.1.size hb2)
      clear hb2 y0 z1 z2
      by_cases hneg : af < 0
      · rw [decide_eq_true hneg]
        have ha := HV.out.2 hneg
        have HA := Lib.hid ha
        clear hneg ha
        go_wp2_with fail
        go_ret
        exact ⟨_, rfl, by rw [HA.out]; exact decide_eq_true (by omega), H2.out⟩
      · have ha := HV.out.1
        rw [decide_eq_false hneg] at ha ⊢
        have HA := Lib.hid ha
        clear hneg ha
        go_wp2_with fail
        go_roundg (n - (j + 1))
        case measure => have := HX.out.1; omega
        case rel => exact ⟨j + 1, by have := HX.out.1; omega, by go_num, H2.out, HA.out⟩
    · obtain rfl : j = n := by have := HX.out.1; omega
      have hge : ¬ (j : Int) < (j : Int) := by omega
      have ha := HX.out.2.2
      rw [List.take_of_length_le (by have := H.out.2; omega)] at ha
      have HA := Lib.hid ha
      clear ha
      go_wp2_with fail
      go_ret
      exact ⟨_, rfl, by rw [HA.out]; decide, HX.out.2.1⟩
theorem contains_any (w : World) (ok : Nat → Prop) (A : Option Addr) (n d : Nat) (l : List Htt) (h : HitsP w ok A l) (hn : l.length = n) (hm : n ≤ 140737488355328) :
    Calls Try.prog 42 #[.slice A n d, .func (.func 43) #[] #[]] w fun e w' => e = .returned (.bool (anyNeg l)) ∧ Below w.heap.size w w' := by
  have HI := Lib.hid (index_any w ok A n d l h hn hm)
  clear h hn
  go_enter Try.func42, Try.ntmps42
  go_wp2_with fail
  refine HI.out.mono ?_
  rintro e w1 ⟨r, rfl, hr, hb⟩
  have H1 := Lib.hid (And.intro hr hb)
  clear hr hb
  go_wp2_with fail
  go_ret
  exact ⟨by rw [← H1.out.1]; rfl, H1.out.2⟩
/-- The chip's own words become others, and it has more memory. -/
theorem PCx.strct2 {w w' : World} {F F' : Nat → Prop} {a : Nat} {L : Lay} {c : Chp} (h : PCx w F a L c) (hs : w.heap.size ≤ w'.heap.size) (hk : ∀ k, k < w.heap.size → k ≠ a → w'.heap[k]? = w.heap[k]?) (hF : ∀ k, F k → F' k) (hlt : ∀ k, F' k → k < w'.heap.size) (hits : List Htt) (since deeds : Int) (dead : Bool) (A : Option Addr) (ch : Nat)
    (hb : Blk w' a 65 (chipCells {L with A := A, ch := ch} {c with hits := hits, since := since, dead := dead, deeds := deeds})) (hh : HitsP w' (fun k => F' k ∧ L.far a c.B k) A hits) (hc : hits.length ≤ ch ∧ ch ≤ maxLen) :
    PCx w' F' a {L with A := A, ch := ch} {c with hits := hits, since := since, dead := dead, deeds := deeds} := by
  obtain ⟨ok, blk, kb, kd, row, _, cb, cd, _, ct, f1, f2, f3, f4, i1, i2, lt⟩ := h
  exact ⟨⟨ok.b1, ok.b2, ok.p1, ok.p2, ok.s1, ok.s2, ok.sp, ok.len, ok.bads⟩, hb, fun i hi => (World.cell?_of_block (hk _ (lt _ i1.2.2) f4.1)).trans (kb i hi), kd.heap (hk _ (lt _ i1.2.1) (Ne.symm f1)), fun i hi => (row i hi).heap (hk _ (lt _ (i2 i hi)) (f2 i hi).1), hh, cb, cd, hc, ct, f1, f2, f3, f4, ⟨hF _ i1.1, hF _ i1.2.1, hF _ i1.2.2⟩, fun i hi => hF _ (i2 i hi), hlt⟩
theorem hit_info : (Try.prog.info? 36).map (fun i => (i.zero.map (·.cells.size), i.size, i.bytes)) = some (some 3, 3, 40) := by kernel_rfl
theorem hit_info' : ∃ i z, Try.prog.info? 36 = some i ∧ i.zero = some z ∧ i.size = 3 ∧ i.bytes = 40 ∧ z.cells.size = 3 := by
  obtain ⟨i, hi, he⟩ := Option.map_eq_some_iff.1 hit_info
  simp only [Prod.mk.injEq] at he
  obtain ⟨z, hz, hz5⟩ := Option.map_eq_some_iff.1 he.1
  exact ⟨i, z, hi, hz, he.2.1, he.2.2, hz5⟩
def HitsEnd (w : World) (F : Nat → Prop) (a : Nat) (r : Chp × Nat) (e : Ending) (w' : World) : Prop :=
  e = .returned (.int .i64 (r.2 : Int)) ∧ PC w' (grw F w w') a r.1 ∧ Tch F w w'

set_option maxRecDepth 100000 in
set_option maxHeartbeats 4000000 in
theorem hits_pc {w : World} {F : Nat → Prop} {a : Nat} {L : Lay} {c : Chp} (h : PCx w F a L c) (A : Option Addr) (n d : Nat) (l : List Htt) (hl : HitsP w (fun k => ¬ F k) A l) (hn : l.length = n) (hm : n * 40 ≤ 140737488351232) (hmk : ∀ x ∈ l, x.mask.length ≤ 140737488351232) :
    Calls Try.prog 15 #[.pointer (some ⟨a, 0, none⟩), .slice A n d] w (HitsEnd w F a (hitsS c l)) := by
  have HO := Lib.hid (off_pc h)
  have HC := Lib.hid (contains_any w _ A n d l hl hn (by omega))
  have H := Lib.hid (And.intro h (And.intro hl (And.intro hn hmk)))
  have hdef : hitsS c l = if anyNeg l = true then (c, 2) else ({c with hits := l, since := 0}, 0) := rfl
  rw [hdef]
  clear hl hn hmk hdef
  obtain ⟨an, han⟩ : ∃ an, anyNeg l = an := ⟨_, rfl⟩
  rw [han] at HC ⊢
  clear han
  cases an with
  | true =>
    rw [if_pos rfl]
    clear h
    go_enter Try.func15, Try.ntmps15
    go_wp2_with fail
    refine HO.out.mono ?_
    rintro e w0 ⟨rfl, rfl⟩
    go_wp2_with fail
    refine HC.out.mono ?_
    rintro e w1 ⟨rfl, hb1⟩
    have H1 := Lib.hid hb1
    clear hb1
    go_wp2_with fail
    go_ret
    refine ⟨rfl, ⟨L, (H.out.1.below H1.out).mono (fun k h => .inl h) (fun k h => ?_)⟩, Tch.of_below H1.out⟩
    rcases h with h | h
    · exact Nat.lt_of_lt_of_le (H.out.1.lt k h) H1.out.size
    · exact h.2
  | false =>
    rw [if_neg (by simp)]
    obtain ⟨ii, iz, hii, hiz, hi1, hi2, hi3⟩ := hit_info'
    clear h
    go_enter Try.func15, Try.ntmps15
    go_wp2_with fail
    refine HO.out.mono ?_
    rintro e w0 ⟨rfl, rfl⟩
    go_wp2_with fail
    refine HC.out.mono ?_
    rintro e w1 ⟨rfl, hb1⟩
    have hp1 := H.out.1.below hb1
    have f6 := hp1.blk.frozen 6
    have f7 := hp1.blk.frozen 7
    obtain ⟨c0, c1, c2, c3, c4, c5, c6, c7, c8, c9⟩ := hp1.cells
    have H1 := Lib.hid (And.intro hp1 hb1)
    clear hp1 hb1 c0 c1 c2 c3 c4 c5 c8 c9
    go_wp2_with fail
    have hgw : w1.grownBy ((w1.setCell ⟨a, 6, none⟩ (.slice none 0 0)).setCell ⟨a, 7, none⟩ (.int .i64 0)) (some a) := grown_trans (grown_setCell _ a 6 _) (grown_setCell _ a 7 _)
    have hbk : Blk ((w1.setCell ⟨a, 6, none⟩ (.slice none 0 0)).setCell ⟨a, 7, none⟩ (.int .i64 0)) a 65 #[.int .i64 (c.B : Int), .int .i64 (c.P : Int), .int .i64 (c.S : Int), .int .i64 (c.Sp : Int), .slice (some ⟨L.kb, 0, none⟩) c.B L.cb, .slice (some ⟨L.kd, 0, none⟩) c.B L.cd, .slice none 0 0, .int .i64 0, .bool c.dead, .int .i64 c.deeds] := by
      have hb := (H1.out.1.blk.set_ 6 (.slice none 0 0)).set_ 7 (.int .i64 0)
      simpa [chipCells] using hb
    have hsz : ((w1.setCell ⟨a, 6, none⟩ (.slice none 0 0)).setCell ⟨a, 7, none⟩ (.int .i64 0)).heap.size = w1.heap.size := by simp [World.setCell]
    generalize (w1.setCell ⟨a, 6, none⟩ (.slice none 0 0)).setCell ⟨a, 7, none⟩ (.int .i64 0) = w2 at *
    have H2 := Lib.hid (And.intro hgw (And.intro hbk hsz))
    clear hgw hbk hsz c6 c7 f6 f7
    go_loopg [21] n (fun k i wr => ∃ (j : Nat) (v : Value) (ps : List (Htt × Value)), j + k = n ∧ i = .int .i64 j ∧ Blk wr a 65 #[.int .i64 (c.B : Int), .int .i64 (c.P : Int), .int .i64 (c.S : Int), .int .i64 (c.Sp : Int), .slice (some ⟨L.kb, 0, none⟩) c.B L.cb, .slice (some ⟨L.kd, 0, none⟩) c.B L.cd, v, .int .i64 0, .bool c.dead, .int .i64 c.deeds] ∧
      OwnZ hitCells Htt.mask 3 36 wr w1.heap.size v j ps ∧ ps.map (·.1) = l.take j ∧ w1.grownBy wr (some a))
    case atStart => exact ⟨0, _, [], by omega, rfl, H2.out.2.1, OwnZ.nil _ _, rfl, H2.out.1⟩
    case round =>
      obtain ⟨j, v, ps, hj, rfl, hbk, hown, hps, hg⟩ := hrel
      have HX := Lib.hid (And.intro hj (And.intro hbk (And.intro hown (And.intro hps hg))))
      have hwsz := hg.size
      clear hj hbk hown hps hg
      by_cases hlt : j < n
      · obtain ⟨x, hx⟩ : ∃ x, l[j]? = some x := ⟨_, List.getElem?_eq_getElem (by have := H.out.2.2.1; omega)⟩
        have hjI : (j : Int) < (n : Int) := by omega
        have hla : a < w1.heap.size := H1.out.1.lt _ H1.out.1.i1.1
        have hlw : HitsP wr (fun k => ¬ F k) A l := (H.out.2.1.below H1.out.2).keep (fun k hk hlt' => grown_ne HX.out.2.2.2.2 k hlt' (fun e => hk (by rw [e]; exact H.out.1.i1.1))) (fun k h _ => h)
        obtain ⟨ad, Bv, dd, hA, _, y0, y1, y2, hrv, hnb, l1, l2⟩ := hlw j x hx
        subst hA
        have hmk := H.out.2.2.2 x (List.mem_of_getElem? hx)
        have htk : (ps ++ [(x, x)].map (fun p => (p.1, Value.bool true))).map (·.1) = l.take (j + 1) := by
          rw [List.take_add_one, hx, List.map_append, HX.out.2.2.2.1]
          rfl
        obtain ⟨M, hM⟩ : ∃ M, x.mask.length = M := ⟨_, rfl⟩
        rw [hM] at y2 l1 hmk
        have hx' : ∃ af fl mk, x = ⟨af, fl, mk⟩ := ⟨_, _, _, rfl⟩
        have HV := Lib.hid (And.intro hx (And.intro hrv (And.intro hM hla)))
        obtain ⟨af, hexa⟩ : ∃ af, x.after = af := ⟨_, rfl⟩
        obtain ⟨fl, hexf⟩ : ∃ fl, x.fails = fl := ⟨_, rfl⟩
        rw [hexa] at y0
        rw [hexf] at y1
        have HXX := Lib.hid (And.intro hexa hexf)
        have z1 : wr.cell? ⟨(ad.add (j * 3)).block, (ad.add (j * 3)).off + 1, none⟩ = some (.bool fl) := y1
        have z2 : wr.cell? ⟨(ad.add (j * 3)).block, (ad.add (j * 3)).off + 2, none⟩ = some (.slice Bv M dd) := y2
        have hB3 := Blk.new wr 36 #[.int .i64 af, .bool fl, .slice Bv M dd]
        have hb3 := (Below.refl wr.heap.size wr).alloc (Nat.le_refl _) (.cells #[.int .i64 af, .bool fl, .slice Bv M dd] 36)
        have g2 := hB3.cell 2
        simp at g2
        have H3 := Lib.hid (And.intro hB3 hb3)
        clear y1 y2 hx hrv hnb htk hx' hM hexa hexf hlw hB3 hb3 hla
        go_wp2_with fail
        generalize hw3 : wr.alloc (.cells #[.int .i64 af, .bool fl, .slice Bv M dd] 36) = w3 at *
        refine (clone_any w3 Bv M dd x.mask HV.out.2.2.1 (HV.out.2.1.below H3.out.2) (by omega)).mono ?_
        rintro e w3' ⟨v3, rfl, ho3, hb3⟩
        obtain ⟨A3, c3, rfl, hrv3, _, _, _⟩ := ho3.slice
        have hBg := H3.out.1.below hb3 H3.out.1.lt
        have fg := hBg.frozen 2
        have gc2 := hBg.cell 2
        simp at gc2
        have hwr3 : Below wr.heap.size wr w3' := below_then H3.out.2 H3.out.2.size hb3
        have H4 := Lib.hid (And.intro ho3 (And.intro hBg (And.intro hwr3 H3.out.1.lt)))
        rw [HV.out.2.2.1]
        clear ho3 hb3 hrv3 hBg hwr3 g2 hw3 y0 z1 z2
        go_wp2_with fail
        have hbk4 := (HX.out.2.1.below H4.out.2.2.1 HX.out.2.1.lt).far (p := ⟨wr.heap.size, 2, none⟩) (by have := HX.out.2.1.lt; show a ≠ wr.heap.size; omega) (.slice A3 M c3)
        have hB4 := H4.out.2.1.set_ 2 (.slice A3 M c3)
        have hg4 := H4.out.2.2.1.setCell (p := ⟨wr.heap.size, 2, none⟩) (Nat.le_refl _) (.slice A3 M c3)
        have ho4 : OwnB 5 (w3'.setCell ⟨wr.heap.size, 2, none⟩ (.slice A3 M c3)) w3.heap.size (.slice A3 M c3) x.mask := by
          have h1 := H4.out.1
          rw [HV.out.2.2.1] at h1
          refine h1.kept (grown_setCell w3' wr.heap.size 2 _) ?_
          cases hvb : (Value.slice A3 M c3).ownBlock with
          | none => exact .inl rfl
          | some k => exact .inr (fun e => by injection e with e; have := (h1.blk hvb).1; have := H4.out.2.2.2; omega)
        have hof4 : OffR (w3'.setCell ⟨wr.heap.size, 2, none⟩ (.slice A3 M c3)) w1.heap.size v.ownBlock (.slice A3 M c3) x.mask := by
          refine ⟨ho4.lower (by have := H4.out.2.2.2; omega), ?_⟩
          cases hvb : (Value.slice A3 M c3).ownBlock with
          | none => exact .inl rfl
          | some k => exact .inr (fun e => by have h1 := (ho4.blk hvb).1; have h2 := (HX.out.2.2.1.blk e.symm).2; have := H4.out.2.2.2; omega)
        have hz4 := HX.out.2.2.1.below hg4
        clear ho4
        generalize w3'.setCell ⟨wr.heap.size, 2, none⟩ (.slice A3 M c3) = w4 at *
        have q6 := hbk4.cell 6
        have f6 := hbk4.frozen 6
        have g0 := hB4.cell 0
        have g1 := hB4.cell 1
        have g2 := hB4.cell 2
        simp at q6 g0 g1 g2
        have hsz4 := hg4.size
        have HD4 := Lib.hid (And.intro hbk4 (And.intro hz4 (And.intro hof4 (And.intro hg4 (And.intro (show hitCells x (.slice A3 M c3) = [.int .i64 af, .bool fl, .slice A3 M c3] by unfold hitCells; rw [HXX.out.1, HXX.out.2]) HX.out.2.2.2.2)))))
        have hS1 : ∀ (cs : Array Value) (t : TypeId), ((w4.drew.alloc (.cells cs t)).cell? ⟨a, 6, none⟩ = some v ∧ (w4.drew.alloc (.cells cs t)).cell? ⟨wr.heap.size, 0, none⟩ = some (.int .i64 af) ∧ (w4.drew.alloc (.cells cs t)).cell? ⟨wr.heap.size, 1, none⟩ = some (.bool fl) ∧ (w4.drew.alloc (.cells cs t)).cell? ⟨wr.heap.size, 2, none⟩ = some (.slice A3 M c3)) := fun cs t => ⟨Lib.cell?_alloc_some _ q6, Lib.cell?_alloc_some _ g0, Lib.cell?_alloc_some _ g1, Lib.cell?_alloc_some _ g2⟩
        have HS1 := Lib.hid hS1
        clear hbk4 hB4 hg4 hz4 hof4 hS1 HXX
        have hj8 : j + 1 ≤ 3518437208781 := by omega
        have hn5 : ∀ (v5 : Value) (w5 : World), OwnZ hitCells Htt.mask 3 36 w5 w1.heap.size v5 (j + 1) (ps ++ [(x, .slice A3 M c3)]) → w4.drew.grownBy w5 v.ownBlock →
            (w5.cell? ⟨a, 6, none⟩ = some v ∧ w5.cell? ⟨wr.heap.size, 0, none⟩ = some (.int .i64 af) ∧ w5.cell? ⟨wr.heap.size, 1, none⟩ = some (.bool fl) ∧ w5.cell? ⟨wr.heap.size, 2, none⟩ = some (.slice A3 M c3)) ∧ w5.frozen? ⟨a, 6, none⟩ = false ∧
            Hid (Blk (w5.setCell ⟨a, 6, none⟩ v5) a 65 #[.int .i64 (c.B : Int), .int .i64 (c.P : Int), .int .i64 (c.S : Int), .int .i64 (c.Sp : Int), .slice (some ⟨L.kb, 0, none⟩) c.B L.cb, .slice (some ⟨L.kd, 0, none⟩) c.B L.cd, v5, .int .i64 0, .bool c.dead, .int .i64 c.deeds] ∧
              OwnZ hitCells Htt.mask 3 36 (w5.setCell ⟨a, 6, none⟩ v5) w1.heap.size v5 (j + 1) (ps ++ [(x, .slice A3 M c3)]) ∧ (ps ++ [(x, Value.slice A3 M c3)]).map (·.1) = l.take (j + 1) ∧ w1.grownBy (w5.setCell ⟨a, 6, none⟩ v5) (some a)) := by
          intro v5 w5 ho5 hg5
          have hla := HV.out.2.2.2
          have hva : some a ≠ v.ownBlock := fun e => by have := (HX.out.2.2.1.blk e.symm).1; omega
          have hvw : some wr.heap.size ≠ v.ownBlock := fun e => by have := (HX.out.2.2.1.blk e.symm).2; omega
          have hbk5 := (show Blk w4.drew a 65 _ from HD4.out.1).grown hg5 hva
          have hb6 := hbk5.set_ 6 v5
          refine ⟨⟨hg5.cell (a := ⟨a, 6, none⟩) q6 hva, hg5.cell (a := ⟨wr.heap.size, 0, none⟩) g0 hvw, hg5.cell (a := ⟨wr.heap.size, 1, none⟩) g1 hvw, hg5.cell (a := ⟨wr.heap.size, 2, none⟩) g2 hvw⟩, hbk5.frozen 6, ⟨by simpa using hb6, ho5.far (grown_setCell w5 a 6 v5) hla, ?_, ?_⟩⟩
          · rw [List.take_add_one, HV.out.1, List.map_append, HX.out.2.2.2.1]
            rfl
          · have hwg : wr.grownBy (w5.setCell ⟨a, 6, none⟩ v5) (some a) ∨ True := .inr trivial
            have hg4 := HD4.out.2.2.2.1
            refine ⟨(show w5.os = _ from hg5.os).trans (hg4.os.trans HX.out.2.2.2.2.os), (show w5.tape = _ from hg5.tape).trans (hg4.tape.trans HX.out.2.2.2.2.tape), (show w5.output = _ from hg5.output).trans (hg4.output.trans HX.out.2.2.2.2.output), ?_, fun k hk hne => ?_⟩
            · have h1 := hg5.size
              have h2 : w4.drew.heap.size = w4.heap.size := rfl
              have h3 : (w5.setCell ⟨a, 6, none⟩ v5).heap.size = w5.heap.size := by simp [World.setCell]
              omega
            · have hne' : k ≠ a := fun e => hne (by rw [e])
              refine (Below.heap_setCell _ _ _ _ hne').trans ((hg5.block k (by show k < w4.heap.size; omega) (fun e => ?_)).trans ((hg4.block k (by omega)).trans (HX.out.2.2.2.2.block k hk hne)))
              have := (HX.out.2.2.1.blk e.symm).1
              omega
        have HN5 := Lib.hid hn5
        clear hn5
        refine wp_region_G (fun w' => w'.cell? ⟨a, 6, none⟩ = some v ∧ w'.cell? ⟨wr.heap.size, 0, none⟩ = some (.int .i64 af) ∧ w'.cell? ⟨wr.heap.size, 1, none⟩ = some (.bool fl) ∧ w'.cell? ⟨wr.heap.size, 2, none⟩ = some (.slice A3 M c3)) 10 11 #[false, false, false, false, false, false, false, false, false, false, false] (by kernel_rfl) rfl (by kernel_rfl) ?_
        have hS0 : w4.drew.cell? ⟨a, 6, none⟩ = some v ∧ w4.drew.cell? ⟨wr.heap.size, 0, none⟩ = some (.int .i64 af) ∧ w4.drew.cell? ⟨wr.heap.size, 1, none⟩ = some (.bool fl) ∧ w4.drew.cell? ⟨wr.heap.size, 2, none⟩ = some (.slice A3 M c3) := ⟨q6, g0, g1, g2⟩
        refine wpAnyG_takeL (i := 0) (v := ?v1) (fuel := 10) (listed' := #[true, false, false, false, false, false, false, false, false, false, false]) rfl (by kernel_rfl) (fun _ _ _ h => h) (.inl ⟨by rfl, ?hy1⟩) (by assumption) (by kernel_rfl) ?rest1
        case hy1 => (intro w' hSw; (try dsimp only at hSw); go_simp; try with_reducible rfl)
        simp only [Act.put, List.setIfInBounds_toArray, List.set_cons_zero, List.set_cons_succ]
        refine wpAnyG_takeL (i := 1) (v := ?v2) (fuel := 9) (listed' := #[true, true, false, false, false, false, false, false, false, false, false]) rfl (by kernel_rfl) (fun _ _ _ h => h) (.inl ⟨by rfl, ?hy2⟩) (by assumption) (by kernel_rfl) ?rest2
        case hy2 => (intro w' hSw; (try dsimp only at hSw); go_simp; try with_reducible rfl)
        simp only [Act.put, List.setIfInBounds_toArray, List.set_cons_zero, List.set_cons_succ]
        refine wpAnyG_takeL (i := 2) (v := ?v3) (fuel := 8) (listed' := #[true, true, true, false, false, false, false, false, false, false, false]) rfl (by kernel_rfl) (fun _ _ _ h => h) (.inl ⟨by rfl, ?hy3⟩) (by assumption) (by kernel_rfl) ?rest3
        case hy3 => (intro w' hSw; (try dsimp only at hSw); go_simp; try with_reducible rfl)
        simp only [Act.put, List.setIfInBounds_toArray, List.set_cons_zero, List.set_cons_succ]
        refine wpAnyG_takeL (i := 3) (v := ?v4) (fuel := 7) (listed' := #[true, true, true, true, false, false, false, false, false, false, false]) rfl (by kernel_rfl) (fun _ _ _ h => h) (.inl ⟨by rfl, ?hy4⟩) (by assumption) (by kernel_rfl) ?rest4
        case hy4 => (intro w' hSw; (try dsimp only at hSw); go_simp; try with_reducible rfl)
        simp only [Act.put, List.setIfInBounds_toArray, List.set_cons_zero, List.set_cons_succ]
        refine wpAnyG_takeL (i := 4) (v := ?v5) (fuel := 6) (listed' := #[true, true, true, true, true, false, false, false, false, false, false]) rfl (by kernel_rfl) (fun _ _ _ h => h) (.inl ⟨by rfl, ?hy5⟩) (by assumption) (by kernel_rfl) ?rest5
        case hy5 => (intro w' hSw; (try dsimp only at hSw); go_simp; try with_reducible rfl)
        simp only [Act.put, List.setIfInBounds_toArray, List.set_cons_zero, List.set_cons_succ]
        refine wpAnyG_takeL (i := 5) (v := ?v6) (fuel := 5) (listed' := #[true, true, true, true, true, true, false, false, false, false, false]) rfl (by kernel_rfl) (fun _ _ _ h => h) (.inl ⟨by rfl, ?hy6⟩) (by assumption) (by kernel_rfl) ?rest6
        case hy6 => (intro w' hSw; (try dsimp only at hSw); go_simp; try with_reducible rfl)
        simp only [Act.put, List.setIfInBounds_toArray, List.set_cons_zero, List.set_cons_succ]
        refine wpAnyG_oneL (i := 6) (fuel := 4) (listed' := #[true, true, true, true, true, true, true, false, false, false, false]) rfl (by kernel_rfl) (by kernel_rfl) (by rfl) (fun K hK0 => ?_)
        have hK := Lib.hid hK0
        clear hK0
        go_simp
        refine hK.out _ _ (.inl (HS1.out _ _)) ?_
        clear hK K
        refine wpAnyG_oneL (i := 7) (fuel := 3) (listed' := #[true, true, true, true, true, true, true, true, false, false, false]) rfl (by kernel_rfl) (by kernel_rfl) (by rfl) (fun K hK0 => ?_)
        have hK := Lib.hid hK0
        clear hK0
        change Oper.wp _ _ _ (World.alloc w4.drew (.cells #[.int .i64 af, .bool fl, .slice A3 M c3] 36)) K _
        refine wp_appZ (cell := hitCells) (val := Htt.mask) (sz := 3) (e := 36) w4.drew (.tmp 33) (.tmp 35) 37 rfl w1.heap.size ii iz 40 Try.underlying37 hii hiz hi1 hi2 hi3 (by decide) hit_len hit_one v j ps (by rfl) (HD4.out.2.1.below ((Below.refl _ _).drew)) x (.slice A3 M c3) (by rfl) (HD4.out.2.2.1.below ((Below.refl _ _).drew)) _ (by rw [HD4.out.2.2.2.2.1]) ?_ ?_ ?_ ?_
        · unfold maxLen; omega
        · omega
        · show w1.heap.size ≤ w4.heap.size; omega
        intro v5 w5 ho5 hg5
        obtain ⟨hS5, f5, HE5⟩ := HN5.out v5 w5 ho5 hg5
        obtain ⟨A5, cc5, hv5, _, _, _, _⟩ := ho5.slice
        subst hv5
        clear ho5 hg5
        refine hK.out _ _ (.inl hS5) ?_
        clear hK K
        simp only [Act.put, List.setIfInBounds_toArray, List.set_cons_zero, List.set_cons_succ]
        refine wpAnyG_takeL (i := 8) (v := ?v7) (fuel := 2) (listed' := #[true, true, true, true, true, true, true, true, true, false, false]) rfl (by kernel_rfl) (fun _ _ _ h => h) (.inl ⟨by rfl, ?hy7⟩) (by assumption) (by kernel_rfl) ?rest7
        case hy7 => (intro w' hSw; (try dsimp only at hSw); go_simp; try with_reducible rfl)
        simp only [Act.put, List.setIfInBounds_toArray, List.set_cons_zero, List.set_cons_succ]
        refine wpAnyG_takeL (i := 9) (v := ?v8) (fuel := 1) (listed' := #[true, true, true, true, true, true, true, true, true, true, false]) rfl (by kernel_rfl) (fun _ _ _ h => h) (.inl ⟨by rfl, ?hy8⟩) (by assumption) (by kernel_rfl) ?rest8
        case hy8 => (intro w' hSw; (try dsimp only at hSw); go_simp; try with_reducible rfl)
        simp only [Act.put, List.setIfInBounds_toArray, List.set_cons_zero, List.set_cons_succ]
        have c5 := hS5.1
        refine wpAnyG_oneL (i := 10) (fuel := 0) (listed' := #[true, true, true, true, true, true, true, true, true, true, true]) rfl (by kernel_rfl) (by kernel_rfl) (by rfl) (fun K hK0 => ?_)
        have hK := Lib.hid hK0
        clear hK0
        go_simp
        refine hK.out _ _ (.inr (by decide)) ?_
        clear hK K
        refine wpAnyG_done (by kernel_rfl) ?_ _
        go_wp2_with fail
        go_roundg (n - (j + 1))
        case measure => have := HX.out.1; omega
        case rel =>
          obtain ⟨e1, e2, e3, e4⟩ := HE5.out
          exact ⟨j + 1, _, _, by have := HX.out.1; omega, by go_num, e1, e2, e3, e4⟩
      · obtain rfl : j = n := by have := HX.out.1; omega
        have hge : ¬ (j : Int) < (j : Int) := by omega
        obtain ⟨A5, c5, hv, h5a, h5b, h5c⟩ := HX.out.2.2.1.hits
        have hfin : PCx wr (grw F w0 wr) a {L with A := A5, ch := c5} {c with hits := l, since := 0} ∧ Tch F w0 wr := by
          have hp := H1.out.1
          have hps : ps.map (·.1) = l := by rw [HX.out.2.2.2.1, List.take_of_length_le (by have := H.out.2.2.1; omega)]
          rw [hps] at h5c
          have hs1 := H1.out.2.size
          have hfar : ∀ k, w1.heap.size ≤ k → L.far a c.B k := fun k hk => ⟨fun e => by have := hp.lt _ hp.i1.1; omega, fun e => by have := hp.lt _ hp.i1.2.1; omega, fun i hi e => by have := hp.lt _ (hp.i2 i hi); omega⟩
          refine ⟨hp.strct2 HX.out.2.2.2.2.size (grown_ne HX.out.2.2.2.2) (fun k h => .inl h) (fun k h => ?_) l 0 _ c.dead A5 c5 ?_ (h5c.keep (fun _ _ _ => rfl) (fun k h _ => ⟨.inr ⟨by omega, h.2⟩, hfar k h.1⟩)) ⟨by rw [H.out.2.2.1]; exact h5a, h5b⟩, (Tch.of_below H1.out.2).then (Tch.of_grown (F := F) HX.out.2.2.2.2 (fun k e _ => ?_)) (fun _ _ h => h)⟩
          · rcases h with h | h
            · exact Nat.lt_of_lt_of_le (hp.lt k h) HX.out.2.2.2.2.size
            · exact h.2
          · have hb := HX.out.2.1
            rw [hv] at hb
            unfold chipCells
            dsimp only
            rw [H.out.2.2.1]
            exact hb
          · injection e with e
            rw [← e]
            exact hp.i1.1
        have HF := Lib.hid hfin
        clear hfin hv h5a h5b h5c
        go_wp2_with fail
        go_ret
        exact ⟨rfl, ⟨_, HF.out.1⟩, HF.out.2⟩
theorem hits_off (w : World) (A : Option Addr) (v : Value) (B : Option Addr) (n d : Nat) (hv : v = .slice B n d) (h : Calls Try.prog 41 #[.pointer A] w fun e w' => e = .returned (.bool true) ∧ w' = w) :
    Calls Try.prog 15 #[.pointer A, v] w fun e w' => e = .returned (.int .i64 1) ∧ w' = w := by
  subst hv
  have HO := Lib.hid h
  clear h
  go_enter Try.func15, Try.ntmps15
  go_wp2_with fail
  refine HO.out.mono ?_
  rintro e w1 ⟨rfl, rfl⟩
  go_wp2_with fail
  go_ret
  exact ⟨rfl, rfl⟩
end Go.Proofs.Ytlcdabmclcfagaa
