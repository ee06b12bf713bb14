import Derived.Test.YtlcdabmclcfagaaRfDM
import Derived.Test.YtlcdabmclcfagaaNdHM
set_option linter.unusedVariables false
set_option linter.unusedSimpArgs false
/- Layer 3: the document's Strike: contract. -/
namespace Go.Proofs.Ytlcdabmclcfagaa
open Go.RowKit

def RHitsEnd (w : World) (F : Nat → Prop) (r : Nat) (q : Chp × Nat) (e : Ending) (w' : World) : Prop :=
  e = .returned (.int .i64 (q.2 : Int)) ∧ RC w' (grw F w w') r q.1 ∧ Tch F w w'
theorem RCx.strct2 {w w' : World} {F F' : Nat → Prop} {r : Nat} {L : RLay} {c : Chp} (h : RCx w F r L c) (hs : w.heap.size ≤ w'.heap.size) (hk : ∀ k, k < w.heap.size → some k ≠ some r → w'.heap[k]? = w.heap[k]?) (hF : ∀ k, F k → F' k) (hlt : ∀ k, F' k → k < w'.heap.size) (hits : List Htt) (since deeds : Int) (dead : Bool) (A : Option Addr) (ch : Nat)
    (hb : Blk w' r 56 (refCells {L with A := A, ch := ch} {c with hits := hits, since := since, dead := dead, deeds := deeds})) (hh : HitsP w' (fun k => F' k ∧ L.far r k) A hits) (hc : hits.length ≤ ch ∧ ch ≤ maxLen) :
    RCx w' F' r {L with A := A, ch := ch} {c with hits := hits, since := since, dead := dead, deeds := deeds} := by
  obtain ⟨ok, blk, kb, kd, _, cb, cd, _, f1, i1, lt⟩ := h
  have hk' : ∀ k, k < w.heap.size → k ≠ r → w'.heap[k]? = w.heap[k]? := fun k h1 h2 => hk k h1 (fun e => h2 (by injection e))
  exact ⟨⟨ok.b1, ok.b2, ok.p1, ok.p2, ok.s1, ok.s2, ok.sp, ok.len, ok.bads⟩, hb, kb.heap (hk' _ (lt _ i1.2.1) (Ne.symm f1.1)), kd.heap (hk' _ (lt _ i1.2.2) (Ne.symm f1.2.1)), hh, cb, cd, hc, f1, ⟨hF _ i1.1, hF _ i1.2.1, hF _ i1.2.2⟩, hlt⟩

set_option maxRecDepth 100000 in
set_option maxHeartbeats 4000000 in
theorem rstrike_any {w : World} {F : Nat → Prop} {r : Nat} {L : RLay} {c : Chp} (h : RCx w F r L c) (A : Option Addr) (n d : Nat) (l : List Htt) (hl : HitsP w (fun k => ¬ F k) A l) (hn : l.length = n) (hm : n * 40 ≤ 140737488351232) (hmk : ∀ x ∈ l, x.mask.length ≤ 140737488351232) :
    Calls Try.prog 26 #[.pointer (some ⟨r, 0, none⟩), .slice A n d] w (RHitsEnd w F r (hitsS c l)) := by
  have H := Lib.hid (And.intro h (And.intro hl (And.intro hn hmk)))
  have HD := Lib.hid (show hitsS c l = if anyNeg l = true then (c, 2) else ({c with hits := l, since := 0}, 0) from rfl)
  obtain ⟨ii, iz, hii, hiz, hi1, hi2, hi3⟩ := hit_info'
  clear hl hn hmk h
  go_enter Try.func26, Try.ntmps26
  go_wp2_with fail
  go_loopg [5] n (fun k i wr => ∃ j : Nat, j + k = n ∧ i = .int .i64 j ∧ wr = w ∧ anyNeg (l.take j) = false)
  case atStart => exact ⟨0, by omega, rfl, rfl, rfl⟩
  case round =>
    obtain ⟨j, hj, rfl, rfl, hall⟩ := hrel
    have HX := Lib.hid (And.intro hj hall)
    clear hj hall
    by_cases hlt : j < n
    · obtain ⟨x, hx⟩ : ∃ x, l[j]? = some x := ⟨_, List.getElem?_eq_getElem (by have := H.out.2.2.1; omega)⟩
      obtain ⟨ad, Bv, dd, hA, _, y0, _, _, _, _, _, _⟩ := H.out.2.1 j x hx
      subst hA
      have hjI : (j : Int) < (n : Int) := by omega
      have htk : anyNeg (l.take (j + 1)) = decide (x.after < 0) := by
        have h1 := HX.out.2
        unfold anyNeg at h1 ⊢
        rw [List.take_add_one, hx, List.any_append, h1]
        simp
      have hany : x.after < 0 → anyNeg l = true := fun hneg => List.any_eq_true.2 ⟨x, List.mem_of_getElem? hx, decide_eq_true hneg⟩
      have HV := Lib.hid (And.intro htk hany)
      generalize x.after = af at *
      clear hx htk hany
      by_cases hneg : af < 0
      · have ha := HV.out.2 hneg
        have hd := HD.out
        rw [if_pos ha] at hd
        have HDD := Lib.hid hd
        clear hd ha
        have t1 : decide (af < 0) = true := decide_eq_true hneg
        go_wp2_with fail
        go_ret
        rw [HDD.out]
        exact ⟨rfl, ⟨L, H.out.1.mono (fun k h => .inl h) (fun k h => h.elim (H.out.1.lt k) (fun h => h.2))⟩, Tch.refl _ _⟩
      · have ha := HV.out.1
        rw [decide_eq_false hneg] at ha
        have HA := Lib.hid ha
        have t1 : decide (af < 0) = false := decide_eq_false hneg
        have hjw : IntKind.i64.wrap ((j : Int) + 1) = (j : Int) + 1 := IntWalk.i64_in _ (by omega)
        clear hneg ha
        go_wp2_with fail
        go_roundg (n - (j + 1))
        case measure => have := HX.out.1; omega
        case rel => exact ⟨j + 1, by have := HX.out.1; omega, by go_num, rfl, HA.out⟩
    · obtain rfl : j = n := by have := HX.out.1; omega
      have hge : ¬ (j : Int) < (j : Int) := by omega
      have ha := HX.out.2
      rw [List.take_of_length_le (by have := H.out.2.2.1; omega)] at ha
      have hd := HD.out
      rw [if_neg (by rw [ha]; simp)] at hd
      have HDD := Lib.hid hd
      clear ha hd HX HD hlt
      generalize hW : wr = w1 at *
      clear hW wr
      have f6 := H.out.1.blk.frozen 6
      have f7 := H.out.1.blk.frozen 7
      obtain ⟨c0, c1, c2, c3, c4, c5, c6, c7, c8, c9⟩ := H.out.1.cells
      clear c0 c1 c2 c3 c4 c5 c8 c9
      go_wp2_with fail
      have hgw : w1.grownBy ((w1.setCell ⟨r, 6, none⟩ (.slice none 0 0)).setCell ⟨r, 7, none⟩ (.int .i64 0)) (some r) := grown_trans (grown_setCell _ r 6 _) (grown_setCell _ r 7 _)
      have hbk : Blk ((w1.setCell ⟨r, 6, none⟩ (.slice none 0 0)).setCell ⟨r, 7, none⟩ (.int .i64 0)) r 56 #[.int .i64 (c.B : Int), .int .i64 (c.P : Int), .int .i64 (c.S : Int), .int .i64 (c.Sp : Int), .slice (some ⟨L.kb, 0, none⟩) (c.B * c.N) (c.B * c.N + L.tb.length), .slice (some ⟨L.kd, 0, none⟩) c.B L.cd, .slice none 0 0, .int .i64 0, .bool c.dead, .int .i64 c.deeds] := by
        have hb := (H.out.1.blk.set_ 6 (.slice none 0 0)).set_ 7 (.int .i64 0)
        simpa [refCells] using hb
      generalize (w1.setCell ⟨r, 6, none⟩ (.slice none 0 0)).setCell ⟨r, 7, none⟩ (.int .i64 0) = w2 at *
      have H2 := Lib.hid (And.intro hgw hbk)
      clear hgw hbk c6 c7 f6 f7
      go_loopg [6] j (fun k i wr => ∃ (q : Nat) (v : Value) (ps : List (Htt × Value)), q + k = j ∧ i = .int .i64 q ∧ Blk wr r 56 #[.int .i64 (c.B : Int), .int .i64 (c.P : Int), .int .i64 (c.S : Int), .int .i64 (c.Sp : Int), .slice (some ⟨L.kb, 0, none⟩) (c.B * c.N) (c.B * c.N + L.tb.length), .slice (some ⟨L.kd, 0, none⟩) c.B L.cd, v, .int .i64 0, .bool c.dead, .int .i64 c.deeds] ∧
        OwnZ hitCells Htt.mask 3 36 wr w1.heap.size v q ps ∧ ps.map (·.1) = l.take q ∧ w1.grownBy wr (some r))
      case atStart => exact ⟨0, _, [], by omega, rfl, H2.out.2, OwnZ.nil _ _, rfl, H2.out.1⟩
      case round =>
        obtain ⟨q, v, ps, hq, rfl, hbk, hown, hps, hg⟩ := hrel
        have HX := Lib.hid (And.intro hq (And.intro hbk (And.intro hown (And.intro hps hg))))
        have hwsz := hg.size
        clear hq hbk hown hps hg
        by_cases hlt : q < j
        · obtain ⟨x, hx⟩ : ∃ x, l[q]? = some x := ⟨_, List.getElem?_eq_getElem (by have := H.out.2.2.1; omega)⟩
          have hqI : (q : Int) < (j : Int) := by omega
          have hla : r < w1.heap.size := H.out.1.lt _ H.out.1.i1.1
          obtain ⟨ad, Bv, dd, hA, hnF, y0, y1, y2, hrv, hnb, l1, l2⟩ := H.out.2.1 q x hx
          subst hA
          have hadlt : ad.block < w1.heap.size := by
            have := World.block_lt_of_cell? w1 _ y0
            rwa [block_add] at this
          have hadr : ad.block ≠ r := fun e => hnF (by rw [e]; exact H.out.1.i1.1)
          have hmv : ∀ {p : Addr} {u : Value}, p.block = ad.block → w1.cell? p = some u → wr.cell? p = some u := fun {p u} hp hu => (World.cell?_of_block (HX.out.2.2.2.2.block p.block (by rw [hp]; exact hadlt) (fun e => hadr (by rw [hp] at e; injection e)))).trans hu
          have hmk := H.out.2.2.2 x (List.mem_of_getElem? hx)
          obtain ⟨M, hM⟩ : ∃ M, x.mask.length = M := ⟨_, rfl⟩
          rw [hM] at y2 hmk
          obtain ⟨af, hexa⟩ : ∃ af, x.after = af := ⟨_, rfl⟩
          obtain ⟨fl, hexf⟩ : ∃ fl, x.fails = fl := ⟨_, rfl⟩
          rw [hexa] at y0
          rw [hexf] at y1
          have k0 := hmv (by simp only [block_add]) y0
          have z1 : wr.cell? ⟨(ad.add (q * 3)).block, (ad.add (q * 3)).off + 1, none⟩ = some (.bool fl) := hmv (by simp only [block_add]) y1
          have z2 : wr.cell? ⟨(ad.add (q * 3)).block, (ad.add (q * 3)).off + 2, none⟩ = some (.slice Bv M dd) := hmv (by simp only [block_add]) y2
          have hrvr : RV wr Bv (bv x.mask) := hrv.keep fun bd hB hn0 => HX.out.2.2.2.2.block _ (hrv.lt hB hn0) (fun e => by
            injection e with e
            exact hnb bd hB (by rwa [bv_length] at hn0) (by rw [e]; exact H.out.1.i1.1))
          have HV := Lib.hid (And.intro hx (And.intro hrvr (And.intro hM (And.intro hla (And.intro hadlt (And.intro hexa hexf))))))
          clear y0 y1 y2 hx hrv hM hexa hexf hmv hrvr hnb hla
          go_wp2_with (at_builtin; refine wpList_appB _ rfl _ _ 22 rfl wr.heap.size 5 Try.underlying22 u8info (.slice none 0 0) [] rfl (OwnB.nil _ _ _) Bv M dd x.mask rfl HV.out.2.2.1 HV.out.2.1 (by rw [HV.out.2.2.1]; show 0 + M ≤ _; omega) (Nat.le_refl _) ?_)
          intro v3 w3 ho3 hg3 _
          obtain ⟨A3, cp3, hv3, _, _, _, _⟩ := ho3.slice
          try rw [List.nil_append] at hv3
          rw [HV.out.2.2.1] at hv3
          subst hv3
          have hb3 : Below wr.heap.size wr w3 := (Below.refl _ _).grown hg3 (Nat.le_refl _) (fun k hk => by cases hk)
          have hbk3 := HX.out.2.1.below hb3 HX.out.2.1.lt
          have hz3 := HX.out.2.2.1.below hb3
          have hof3 : OffR w3 w1.heap.size v.ownBlock (.slice A3 M cp3) x.mask := offR_new ho3 hwsz (fun k hk => (HX.out.2.2.1.blk hk).2)
          have e0 := (World.cell?_of_block (hb3.block _ (World.block_lt_of_cell? wr _ k0))).trans k0
          have e1 : w3.cell? ⟨(ad.add (q * 3)).block, (ad.add (q * 3)).off + 1, none⟩ = some (.bool fl) := (World.cell?_of_block (hb3.block _ (World.block_lt_of_cell? wr _ z1))).trans z1
          have HD3 := Lib.hid (And.intro hbk3 (And.intro hz3 (And.intro hof3 (And.intro hb3 (And.intro (show hitCells x (.slice A3 M cp3) = [.int .i64 af, .bool fl, .slice A3 M cp3] by unfold hitCells; rw [HV.out.2.2.2.2.2.1, HV.out.2.2.2.2.2.2]) (And.intro e0 e1))))))
          have hsz3 := hb3.size
          clear ho3 hg3 hbk3 hz3 hof3 hb3 e0 e1 k0 z1 z2
          go_wp2_with fail
          refine wp_region_G (fun w' : World => w'.cell? ⟨r, 6, none⟩ = some v ∧ w'.cell? (ad.add (q * 3)) = some (.int .i64 af) ∧ w'.cell? ⟨(ad.add (q * 3)).block, (ad.add (q * 3)).off + 1, none⟩ = some (.bool fl)) 21 22 #[false, false, false, false, false, false, false, false, false, false, false, false, false, false, false, false, false, false, false, false, false, false] (by kernel_rfl) rfl (by kernel_rfl) ?_
          have hS0 : (fun w' : World => w'.cell? ⟨r, 6, none⟩ = some v ∧ w'.cell? (ad.add (q * 3)) = some (.int .i64 af) ∧ w'.cell? ⟨(ad.add (q * 3)).block, (ad.add (q * 3)).off + 1, none⟩ = some (.bool fl)) w3.drew := by
            have q6 := HD3.out.1.cell 6
            simp at q6
            exact ⟨q6, HD3.out.2.2.2.2.2.1, HD3.out.2.2.2.2.2.2⟩
          dsimp only at hS0
          have HS0 := Lib.hid hS0
          have hn5 : ∀ (v5 : Value) (w5 : World), OwnZ hitCells Htt.mask 3 36 w5 w1.heap.size v5 (q + 1) (ps ++ [(x, .slice A3 M cp3)]) → w3.drew.grownBy w5 v.ownBlock →
              (w5.cell? ⟨r, 6, none⟩ = some v ∧ w5.cell? (ad.add (q * 3)) = some (.int .i64 af) ∧ w5.cell? ⟨(ad.add (q * 3)).block, (ad.add (q * 3)).off + 1, none⟩ = some (.bool fl)) ∧ w5.frozen? ⟨r, 6, none⟩ = false ∧
              Hid (Blk (w5.setCell ⟨r, 6, none⟩ v5) r 56 #[.int .i64 (c.B : Int), .int .i64 (c.P : Int), .int .i64 (c.S : Int), .int .i64 (c.Sp : Int), .slice (some ⟨L.kb, 0, none⟩) (c.B * c.N) (c.B * c.N + L.tb.length), .slice (some ⟨L.kd, 0, none⟩) c.B L.cd, v5, .int .i64 0, .bool c.dead, .int .i64 c.deeds] ∧
                OwnZ hitCells Htt.mask 3 36 (w5.setCell ⟨r, 6, none⟩ v5) w1.heap.size v5 (q + 1) (ps ++ [(x, .slice A3 M cp3)]) ∧ (ps ++ [(x, Value.slice A3 M cp3)]).map (·.1) = l.take (q + 1) ∧ w1.grownBy (w5.setCell ⟨r, 6, none⟩ v5) (some r)) := by
            intro v5 w5 ho5 hg5
            have hla := HV.out.2.2.2.1
            have hva : some r ≠ v.ownBlock := fun e => by have := (HX.out.2.2.1.blk e.symm).1; omega
            have hvw : some ad.block ≠ v.ownBlock := fun e => by have := (HX.out.2.2.1.blk e.symm).1; have := HV.out.2.2.2.2.1; omega
            have hbk5 := (show Blk w3.drew r 56 _ from HD3.out.1).grown hg5 hva
            have hb6 := hbk5.set_ 6 v5
            refine ⟨⟨hg5.cell (a := ⟨r, 6, none⟩) HS0.out.1 hva, hg5.cell HS0.out.2.1 (by rw [block_add]; exact hvw), hg5.cell HS0.out.2.2 (by show some (ad.add (q * 3)).block ≠ _; rw [block_add]; exact hvw)⟩, hbk5.frozen 6, ⟨by simpa using hb6, ho5.far (grown_setCell w5 r 6 v5) hla, ?_, ?_⟩⟩
            · rw [List.take_add_one, HV.out.1, List.map_append, HX.out.2.2.2.1]
              rfl
            · have hg4 := HD3.out.2.2.2.1
              refine ⟨(show w5.os = _ from hg5.os).trans (hg4.os.trans HX.out.2.2.2.2.os), (show w5.tape = _ from hg5.tape).trans (hg4.tape.trans HX.out.2.2.2.2.tape), (show w5.output = _ from hg5.output).trans (hg4.output.trans HX.out.2.2.2.2.output), ?_, fun k hk hne => ?_⟩
              · have h1 := hg5.size
                have h2 : w3.drew.heap.size = w3.heap.size := rfl
                have h3 : (w5.setCell ⟨r, 6, none⟩ v5).heap.size = w5.heap.size := by simp [World.setCell]
                omega
              · have hne' : k ≠ r := fun e => hne (by rw [e])
                refine (Below.heap_setCell _ _ _ _ hne').trans ((hg5.block k (by show k < w3.heap.size; omega) (fun e => ?_)).trans ((hg4.block k (by omega)).trans (HX.out.2.2.2.2.block k hk hne)))
                have := (HX.out.2.2.1.blk e.symm).1
                omega
          have HN5 := Lib.hid hn5
          clear hn5
          have HS1 := Lib.hid (show ∀ (cs : Array Value) (t : TypeId), _ from fun cs t => (⟨Lib.cell?_alloc_some (.cells cs t) HS0.out.1, Lib.cell?_alloc_some (.cells cs t) HS0.out.2.1, Lib.cell?_alloc_some (.cells cs t) HS0.out.2.2⟩ : (fun w' : World => w'.cell? ⟨r, 6, none⟩ = some v ∧ w'.cell? (ad.add (q * 3)) = some (.int .i64 af) ∧ w'.cell? ⟨(ad.add (q * 3)).block, (ad.add (q * 3)).off + 1, none⟩ = some (.bool fl)) (w3.drew.alloc (.cells cs t))))
          have hwd : w1.heap.size ≤ w3.drew.heap.size := by show w1.heap.size ≤ w3.heap.size; omega
          have HZ := Lib.hid (And.intro (HD3.out.2.1.below ((Below.refl _ _).drew)) (HD3.out.2.2.1.below ((Below.refl _ _).drew)))
          generalize w3.drew = w4 at *
          refine wpAnyG_takeL (i := 0) (v := ?v1) (fuel := 21) (listed' := #[true, false, false, false, false, false, false, false, false, false, false, false, false, false, false, false, false, false, false, false, false, false]) rfl (by kernel_rfl) (fun _ _ _ h => h) (.inl ⟨by rfl, ?hy1⟩) (by assumption) (by kernel_rfl) ?rest1
          case hy1 => (intro w' hSw; (try dsimp only at hSw); go_simp; try with_reducible rfl)
          try simp only [Act.put, List.setIfInBounds_toArray, List.set_cons_zero, List.set_cons_succ]
          refine wpAnyG_takeL (i := 1) (v := ?v2) (fuel := 20) (listed' := #[true, true, false, false, false, false, false, false, false, false, false, false, false, false, false, false, false, false, false, false, false, false]) rfl (by kernel_rfl) (fun _ _ _ h => h) (.inl ⟨by rfl, ?hy2⟩) (by assumption) (by kernel_rfl) ?rest2
          case hy2 => (intro w' hSw; (try dsimp only at hSw); go_simp; try with_reducible rfl)
          try simp only [Act.put, List.setIfInBounds_toArray, List.set_cons_zero, List.set_cons_succ]
          refine wpAnyG_takeL (i := 2) (v := ?v3) (fuel := 19) (listed' := #[true, true, true, false, false, false, false, false, false, false, false, false, false, false, false, false, false, false, false, false, false, false]) rfl (by kernel_rfl) (fun _ _ _ h => h) (.inl ⟨by rfl, ?hy3⟩) (by assumption) (by kernel_rfl) ?rest3
          case hy3 => (intro w' hSw; (try dsimp only at hSw); go_simp; try with_reducible rfl)
          try simp only [Act.put, List.setIfInBounds_toArray, List.set_cons_zero, List.set_cons_succ]
          refine wpAnyG_takeL (i := 3) (v := ?v4) (fuel := 18) (listed' := #[true, true, true, true, false, false, false, false, false, false, false, false, false, false, false, false, false, false, false, false, false, false]) rfl (by kernel_rfl) (fun _ _ _ h => h) (.inl ⟨by rfl, ?hy4⟩) (by assumption) (by kernel_rfl) ?rest4
          case hy4 => (intro w' hSw; (try dsimp only at hSw); go_simp; try with_reducible rfl)
          try simp only [Act.put, List.setIfInBounds_toArray, List.set_cons_zero, List.set_cons_succ]
          refine wpAnyG_takeL (i := 4) (v := ?v5) (fuel := 17) (listed' := #[true, true, true, true, true, false, false, false, false, false, false, false, false, false, false, false, false, false, false, false, false, false]) rfl (by kernel_rfl) (fun _ _ _ h => h) (.inl ⟨by rfl, ?hy5⟩) (by assumption) (by kernel_rfl) ?rest5
          case hy5 => (intro w' hSw; (try dsimp only at hSw); go_simp; try with_reducible rfl)
          try simp only [Act.put, List.setIfInBounds_toArray, List.set_cons_zero, List.set_cons_succ]
          refine wpAnyG_takeL (i := 5) (v := ?v6) (fuel := 16) (listed' := #[true, true, true, true, true, true, false, false, false, false, false, false, false, false, false, false, false, false, false, false, false, false]) rfl (by kernel_rfl) (fun _ _ _ h => h) (.inl ⟨by rfl, ?hy6⟩) (by assumption) (by kernel_rfl) ?rest6
          case hy6 => (intro w' hSw; (try dsimp only at hSw); go_simp; try with_reducible rfl)
          try simp only [Act.put, List.setIfInBounds_toArray, List.set_cons_zero, List.set_cons_succ]
          refine wpAnyG_takeL (i := 6) (v := ?v7) (fuel := 15) (listed' := #[true, true, true, true, true, true, true, false, false, false, false, false, false, false, false, false, false, false, false, false, false, false]) rfl (by kernel_rfl) (fun _ _ _ h => h) (.inl ⟨by rfl, ?hy7⟩) (by assumption) (by kernel_rfl) ?rest7
          case hy7 => (intro w' hSw; (try dsimp only at hSw); go_simp; try with_reducible rfl)
          try simp only [Act.put, List.setIfInBounds_toArray, List.set_cons_zero, List.set_cons_succ]
          refine wpAnyG_takeL (i := 7) (v := ?v8) (fuel := 14) (listed' := #[true, true, true, true, true, true, true, true, false, false, false, false, false, false, false, false, false, false, false, false, false, false]) rfl (by kernel_rfl) (fun _ _ _ h => h) (.inl ⟨by rfl, ?hy8⟩) (by assumption) (by kernel_rfl) ?rest8
          case hy8 => (intro w' hSw; (try dsimp only at hSw); go_simp; try with_reducible rfl)
          try simp only [Act.put, List.setIfInBounds_toArray, List.set_cons_zero, List.set_cons_succ]
          refine wpAnyG_takeL (i := 8) (v := ?v9) (fuel := 13) (listed' := #[true, true, true, true, true, true, true, true, true, false, false, false, false, false, false, false, false, false, false, false, false, false]) rfl (by kernel_rfl) (fun _ _ _ h => h) (.inl ⟨by rfl, ?hy9⟩) (by assumption) (by kernel_rfl) ?rest9
          case hy9 => (intro w' hSw; (try dsimp only at hSw); go_simp; try with_reducible rfl)
          try simp only [Act.put, List.setIfInBounds_toArray, List.set_cons_zero, List.set_cons_succ]
          refine wpAnyG_takeL (i := 9) (v := ?v10) (fuel := 12) (listed' := #[true, true, true, true, true, true, true, true, true, true, false, false, false, false, false, false, false, false, false, false, false, false]) rfl (by kernel_rfl) (fun _ _ _ h => h) (.inl ⟨by rfl, ?hy10⟩) (by assumption) (by kernel_rfl) ?rest10
          case hy10 => (intro w' hSw; (try dsimp only at hSw); go_simp; try with_reducible rfl)
          try simp only [Act.put, List.setIfInBounds_toArray, List.set_cons_zero, List.set_cons_succ]
          refine wpAnyG_takeL (i := 10) (v := ?v11) (fuel := 11) (listed' := #[true, true, true, true, true, true, true, true, true, true, true, false, false, false, false, false, false, false, false, false, false, false]) rfl (by kernel_rfl) (fun _ _ _ h => h) (.inl ⟨by rfl, ?hy11⟩) (by assumption) (by kernel_rfl) ?rest11
          case hy11 => (intro w' hSw; (try dsimp only at hSw); go_simp; try with_reducible rfl)
          try simp only [Act.put, List.setIfInBounds_toArray, List.set_cons_zero, List.set_cons_succ]
          refine wpAnyG_takeL (i := 11) (v := ?v12) (fuel := 10) (listed' := #[true, true, true, true, true, true, true, true, true, true, true, true, false, false, false, false, false, false, false, false, false, false]) rfl (by kernel_rfl) (fun _ _ _ h => h) (.inl ⟨by rfl, ?hy12⟩) (by assumption) (by kernel_rfl) ?rest12
          case hy12 => (intro w' hSw; (try dsimp only at hSw); go_simp; try with_reducible rfl)
          try simp only [Act.put, List.setIfInBounds_toArray, List.set_cons_zero, List.set_cons_succ]
          refine wpAnyG_takeL (i := 12) (v := ?v13) (fuel := 9) (listed' := #[true, true, true, true, true, true, true, true, true, true, true, true, true, false, false, false, false, false, false, false, false, false]) rfl (by kernel_rfl) (fun _ _ _ h => h) (.inl ⟨by rfl, ?hy13⟩) (by assumption) (by kernel_rfl) ?rest13
          case hy13 => (intro w' hSw; (try dsimp only at hSw); go_simp; try with_reducible rfl)
          try simp only [Act.put, List.setIfInBounds_toArray, List.set_cons_zero, List.set_cons_succ]
          refine wpAnyG_takeL (i := 13) (v := ?v14) (fuel := 8) (listed' := #[true, true, true, true, true, true, true, true, true, true, true, true, true, true, false, false, false, false, false, false, false, false]) rfl (by kernel_rfl) (fun _ _ _ h => h) (.inl ⟨by rfl, ?hy14⟩) (by assumption) (by kernel_rfl) ?rest14
          case hy14 => (intro w' hSw; (try dsimp only at hSw); go_simp; try with_reducible rfl)
          try simp only [Act.put, List.setIfInBounds_toArray, List.set_cons_zero, List.set_cons_succ]
          refine wpAnyG_takeL (i := 14) (v := ?v15) (fuel := 7) (listed' := #[true, true, true, true, true, true, true, true, true, true, true, true, true, true, true, false, false, false, false, false, false, false]) rfl (by kernel_rfl) (fun _ _ _ h => h) (.inl ⟨by rfl, ?hy15⟩) (by assumption) (by kernel_rfl) ?rest15
          case hy15 => (intro w' hSw; (try dsimp only at hSw); go_simp; try with_reducible rfl)
          try simp only [Act.put, List.setIfInBounds_toArray, List.set_cons_zero, List.set_cons_succ]
          refine wpAnyG_takeL (i := 15) (v := ?v16) (fuel := 6) (listed' := #[true, true, true, true, true, true, true, true, true, true, true, true, true, true, true, true, false, false, false, false, false, false]) rfl (by kernel_rfl) (fun _ _ _ h => h) (.inl ⟨by rfl, ?hy16⟩) (by assumption) (by kernel_rfl) ?rest16
          case hy16 => (intro w' hSw; (try dsimp only at hSw); go_simp; try with_reducible rfl)
          try simp only [Act.put, List.setIfInBounds_toArray, List.set_cons_zero, List.set_cons_succ]
          refine wpAnyG_takeL (i := 16) (v := ?v17) (fuel := 5) (listed' := #[true, true, true, true, true, true, true, true, true, true, true, true, true, true, true, true, true, false, false, false, false, false]) rfl (by kernel_rfl) (fun _ _ _ h => h) (.inl ⟨by rfl, ?hy17⟩) (by assumption) (by kernel_rfl) ?rest17
          case hy17 => (intro w' hSw; (try dsimp only at hSw); go_simp; try with_reducible rfl)
          try simp only [Act.put, List.setIfInBounds_toArray, List.set_cons_zero, List.set_cons_succ]
          refine wpAnyG_oneL (i := 17) (fuel := 4) (listed' := #[true, true, true, true, true, true, true, true, true, true, true, true, true, true, true, true, true, true, false, false, false, false]) rfl (by kernel_rfl) (by kernel_rfl) (by rfl) (fun K hK0 => ?_)
          have hK := Lib.hid hK0
          clear hK0
          go_simp
          refine hK.out _ _ (.inl (HS1.out _ _)) ?_
          clear hK K
          try simp only [Act.put, List.setIfInBounds_toArray, List.set_cons_zero, List.set_cons_succ]
          refine wpAnyG_oneL (i := 18) (fuel := 3) (listed' := #[true, true, true, true, true, true, true, true, true, true, true, true, true, true, true, true, true, true, true, false, false, false]) rfl (by kernel_rfl) (by kernel_rfl) (by rfl) (fun K hK0 => ?_)
          have hK := Lib.hid hK0
          clear hK0
          refine wp_appZ (cell := hitCells) (val := Htt.mask) (sz := 3) (e := 36) w4 (.tmp 43) (.tmp 56) 37 rfl w1.heap.size ii iz 40 Try.underlying37 hii hiz hi1 hi2 hi3 (by decide) hit_len hit_one v q ps (by rfl) HZ.out.1 x (.slice A3 M cp3) (by rfl) HZ.out.2 _ (by rw [HD3.out.2.2.2.2.1]) ?_ ?_ ?_ ?_
          · unfold maxLen; omega
          · omega
          · exact hwd
          intro v5 w5 ho5 hg5
          obtain ⟨hS5, f5, HE5⟩ := HN5.out v5 w5 ho5 hg5
          obtain ⟨A5, cc5, hv5, _, _, _, _⟩ := ho5.slice
          subst hv5
          clear ho5 hg5 hS0
          refine hK.out _ _ (.inl (hS5)) ?_
          clear hK K
          try simp only [Act.put, List.setIfInBounds_toArray, List.set_cons_zero, List.set_cons_succ]
          have hS0 := hS5
          refine wpAnyG_takeL (i := 19) (v := ?v18) (fuel := 2) (listed' := #[true, true, true, true, true, true, true, true, true, true, true, true, true, true, true, true, true, true, true, true, false, false]) rfl (by kernel_rfl) (fun _ _ _ h => h) (.inl ⟨by rfl, ?hy18⟩) (by assumption) (by kernel_rfl) ?rest18
          case hy18 => (intro w' hSw; (try dsimp only at hSw); go_simp; try with_reducible rfl)
          try simp only [Act.put, List.setIfInBounds_toArray, List.set_cons_zero, List.set_cons_succ]
          refine wpAnyG_takeL (i := 20) (v := ?v19) (fuel := 1) (listed' := #[true, true, true, true, true, true, true, true, true, true, true, true, true, true, true, true, true, true, true, true, true, false]) rfl (by kernel_rfl) (fun _ _ _ h => h) (.inl ⟨by rfl, ?hy19⟩) (by assumption) (by kernel_rfl) ?rest19
          case hy19 => (intro w' hSw; (try dsimp only at hSw); go_simp; try with_reducible rfl)
          try simp only [Act.put, List.setIfInBounds_toArray, List.set_cons_zero, List.set_cons_succ]
          have c5 := hS5.1
          refine wpAnyG_oneL (i := 21) (fuel := 0) (listed' := #[true, true, true, true, true, true, true, true, true, true, true, true, true, true, true, true, true, true, true, true, true, true]) rfl (by kernel_rfl) (by kernel_rfl) (by rfl) (fun K hK0 => ?_)
          have hK := Lib.hid hK0
          clear hK0
          go_simp
          refine hK.out _ _ (.inr (by decide)) ?_
          clear hK K
          refine wpAnyG_done (by kernel_rfl) ?_ _
          go_wp2_with fail
          go_roundg (j - (q + 1))
          case measure => have := HX.out.1; omega
          case rel =>
            obtain ⟨e1, e2, e3, e4⟩ := HE5.out
            exact ⟨q + 1, _, _, by have := HX.out.1; omega, by go_num, e1, e2, e3, e4⟩
        · obtain rfl : q = j := by have := HX.out.1; omega
          have hge : ¬ (q : Int) < (q : Int) := by omega
          obtain ⟨A5, c5, hv, h5a, h5b, h5c⟩ := HX.out.2.2.1.hits
          have hfin : RCx wr (grw F w1 wr) r {L with A := A5, ch := c5} {c with hits := l, since := 0} ∧ Tch F w1 wr := by
            have hp := H.out.1
            have hps : ps.map (·.1) = l := by rw [HX.out.2.2.2.1, List.take_of_length_le (by have := H.out.2.2.1; omega)]
            rw [hps] at h5c
            have hfar : ∀ k, w1.heap.size ≤ k → L.far r k := fun k hk => ⟨fun e => by have := hp.lt _ hp.i1.1; omega, fun e => by have := hp.lt _ hp.i1.2.1; omega, fun e => by have := hp.lt _ hp.i1.2.2; omega⟩
            refine ⟨hp.strct2 HX.out.2.2.2.2.size (fun k hk hne => HX.out.2.2.2.2.block k hk hne) (fun k h => .inl h) (fun k h => ?_) l 0 _ c.dead A5 c5 ?_ (h5c.keep (fun _ _ _ => rfl) (fun k h _ => ⟨.inr ⟨h.1, h.2⟩, hfar k h.1⟩)) ⟨by rw [H.out.2.2.1]; exact h5a, h5b⟩, Tch.of_grown HX.out.2.2.2.2 (fun k e _ => ?_)⟩
            · rcases h with h | h
              · exact Nat.lt_of_lt_of_le (hp.lt k h) HX.out.2.2.2.2.size
              · exact h.2
            · have hb := HX.out.2.1
              rw [hv] at hb
              unfold refCells
              dsimp only
              rw [H.out.2.2.1]
              exact hb
            · injection e with e
              rw [← e]
              exact hp.i1.1
          have HF := Lib.hid hfin
          clear hfin hv h5a h5b h5c
          go_wp2_with fail
          go_ret
          rw [HDD.out]
          exact ⟨rfl, ⟨_, HF.out.1⟩, HF.out.2⟩
end Go.Proofs.Ytlcdabmclcfagaa
