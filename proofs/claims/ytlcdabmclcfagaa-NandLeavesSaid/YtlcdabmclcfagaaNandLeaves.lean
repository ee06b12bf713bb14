/- NandLeaves: the walk. -/
import Derived.Test.YtlcdabmclcfagaaWorks03
import Derived.Test.YtlcdabmclcfagaaLvS
import Derived.Test.YtlcdabmclcfagaaSameK
set_option linter.unusedVariables false
set_option linter.unusedSimpArgs false
namespace Go.Proofs.Ytlcdabmclcfagaa
open Go.RowKit

/-- A chip of the call's own beside a row of bytes of the call's own. -/
structure CK (w W : World) (g k : Nat) (ws : List UInt8) (c : Chp) : Prop where
  pc : ∃ F, PC W F g c ∧ ∀ i, F i → w.heap.size ≤ i ∧ i ≠ k
  bel : Below w.heap.size w W
  row : RowB 5 W k ws
theorem CK.later {w W W' : World} {g k : Nat} {ws : List UInt8} {c : Chp} (h : CK w W g k ws c) (hb : Below W.heap.size W W') : CK w W' g k ws c := by
  obtain ⟨⟨F, h1, h2⟩, h3, h4⟩ := h
  exact ⟨⟨F, h1.below hb, h2⟩, below_then h3 h3.size hb, h4.belowAll hb⟩
theorem CK.of {w W W' : World} {g k : Nat} {ws : List UInt8} {c : Chp} (h : CP w W g c) (hb : Below W.heap.size W W') (hk : W.heap.size ≤ k) (hr : RowB 5 W' k ws) : CK w W' g k ws c := by
  obtain ⟨F, h1, h2, h3⟩ := h
  exact ⟨⟨F, h1.below hb, fun i hi => ⟨h2 i hi, by have := h1.lt i hi; omega⟩⟩, below_then h3 h3.size hb, hr⟩
theorem ck_prog {w W : World} {g k : Nat} {ws : List UInt8} {c : Chp} (h : CK w W g k ws c) (b p : Int) (n d : Nat) (hn : ws.length = n) :
    Calls Try.prog 12 #[.pointer (some ⟨g, 0, none⟩), .int .i64 b, .int .i64 p, .slice (some ⟨k, 0, none⟩) n d] W fun e w' => e = .returned (.int .i64 ((programS c b p ws).2 : Int)) ∧ CK w w' g k ws (programS c b p ws).1 := by
  obtain ⟨⟨F, ⟨L, h1⟩, h2⟩, h3, h4⟩ := h
  refine (program_pc h1 b p _ n d ws hn h4.rv fun ad he h0 hF => ?_).mono ?_
  · injection he with he
    subst he
    exact (h2 _ hF).2 rfl
  rintro e w' ⟨he, hp, ht⟩
  exact ⟨he, ⟨F, hp, h2⟩, h3.trans (ht.below (fun i hi => (h2 i hi).1) h3.size), h4.heap (ht.block k h4.lt fun hF => (h2 _ hF).2 rfl)⟩
theorem ck_erase {w W : World} {g k : Nat} {ws : List UInt8} {c : Chp} (h : CK w W g k ws c) (b : Int) :
    Calls Try.prog 16 #[.pointer (some ⟨g, 0, none⟩), .int .i64 b] W fun e w' => e = .returned (.int .i64 ((eraseS c b).2 : Int)) ∧ CK w w' g k ws (eraseS c b).1 := by
  obtain ⟨⟨F, ⟨L, h1⟩, h2⟩, h3, h4⟩ := h
  refine (erase_pc h1 b).mono ?_
  rintro e w' ⟨he, hp, ht⟩
  exact ⟨he, ⟨F, hp, h2⟩, h3.trans (ht.below (fun i hi => (h2 i hi).1) h3.size), h4.heap (ht.block k h4.lt fun hF => (h2 _ hF).2 rfl)⟩
theorem ck_hits {w W : World} {g k : Nat} {ws : List UInt8} {c : Chp} (h : CK w W g k ws c) (A : Option Addr) (d : Nat) (ms : List UInt8) (hr : RV w A (bv ms)) (hd : ms.length ≤ d) (hm : d ≤ maxLen) (hR : ms.length ≤ 140737488351232) (fl : Bool) (n : Nat) (hn : ms.length = n) :
    Calls Try.prog 15 #[.pointer (some ⟨g, 0, none⟩), .slice (some ⟨W.heap.size, 0, none⟩) 1 1] (W.alloc (.cells #[.int .i64 0, .bool fl, .slice A n d] 36)) fun e w' => e = .returned (.int .i64 ((hitsS c [⟨0, fl, ms⟩]).2 : Int)) ∧ CK w w' g k ws (hitsS c [⟨0, fl, ms⟩]).1 := by
  subst hn
  have hB := Blk.new W 36 #[.int .i64 0, .bool fl, .slice A ms.length d]
  have hb := (Below.refl W.heap.size W).alloc (Nat.le_refl _) (.cells #[.int .i64 0, .bool fl, .slice A ms.length d] 36)
  obtain ⟨⟨F, h1, h2⟩, h3, h4⟩ := h
  have hlt := h1.lt
  have h4' := h4.belowAll hb
  have h3' := below_then h3 h3.size hb
  have hr' := hr.below h3'
  generalize W.alloc (.cells #[.int .i64 0, .bool fl, .slice A ms.length d] 36) = W1 at *
  obtain ⟨L, h5⟩ := h1.below hb
  have hl : HitsP W1 (fun i => ¬ F i) (some ⟨W.heap.size, 0, none⟩) [⟨0, fl, ms⟩] := by
    intro i x hi
    match i, hi with
    | 0, hi =>
      obtain rfl : (⟨0, fl, ms⟩ : Htt) = x := by simpa using hi
      refine ⟨_, _, d, rfl, fun hF => Nat.lt_irrefl _ (hlt _ hF), hB.cell 0, hB.cell 1, hB.cell 2, hr', fun bd hb0 h0 hF => ?_, hd, hm⟩
      have e1 := hr.lt hb0 (by rw [bv_length]; exact h0)
      have e2 := (h2 _ hF).1
      omega
    | i + 1, hi => simp at hi
  refine (hits_pc h5 _ 1 1 _ hl rfl (by decide) (fun x hx => by simp at hx; subst hx; exact hR)).mono ?_
  rintro e w' ⟨he, hp, ht⟩
  have hs1 := Nat.le_trans h3.size hb.size
  refine ⟨he, ⟨_, hp, ?_⟩, h3'.trans (ht.below (fun i hi => (h2 i hi).1) hs1), h4'.heap (ht.block k h4'.lt fun hF => (h2 _ hF).2 rfl)⟩
  rintro i (hi | hi)
  · exact h2 i hi
  · have := h4'.lt
    exact ⟨Nat.le_trans hs1 hi.1, by omega⟩
theorem ck_power {w W : World} {g k : Nat} {ws : List UInt8} {c : Chp} (h : CK w W g k ws c) :
    Calls Try.prog 18 #[.pointer (some ⟨g, 0, none⟩)] W fun e w' => ∃ g', e = .returned (.tuple #[.pointer (some ⟨g', 0, none⟩), .int .i64 0]) ∧ CK w w' g' k ws (powerS c) := by
  obtain ⟨⟨F, ⟨L, h1⟩, h2⟩, h3, h4⟩ := h
  refine (power_pc h1).mono ?_
  rintro e w' ⟨g', he, hp, hb⟩
  exact ⟨g', he, ⟨_, hp, fun i hi => ⟨Nat.le_trans h3.size hi.1, by have := hi.1; have := h4.lt; omega⟩⟩, below_then h3 h3.size hb, h4.belowAll hb⟩
theorem ck_read {w W : World} {g k : Nat} {ws : List UInt8} {c : Chp} (h : CK w W g k ws c) (b p : Int) :
    Calls Try.prog 13 #[.pointer (some ⟨g, 0, none⟩), .int .i64 b, .int .i64 p] W fun e w' => ∃ v, e = .returned (.tuple #[v, .int .i64 ((readS c b p).2 : Int)]) ∧ OwnB 5 w' W.heap.size v (readS c b p).1 ∧ CK w w' g k ws c := by
  have h0 := h
  obtain ⟨⟨F, ⟨L, h1⟩, h2⟩, h3, h4⟩ := h
  refine (read_pc h1 b p).mono ?_
  rintro e w' ⟨v, he, ho, hb⟩
  exact ⟨v, he, ho, h0.later hb⟩
theorem ck_bad {w W : World} {g k : Nat} {ws : List UInt8} {c : Chp} (h : CK w W g k ws c) (b : Int) :
    Calls Try.prog 17 #[.pointer (some ⟨g, 0, none⟩), .int .i64 b] W fun e w' => e = .returned (.bool (badS c b)) ∧ w' = W := by
  obtain ⟨⟨F, ⟨L, h1⟩, h2⟩, h3, h4⟩ := h
  exact bad_pc h1 b
theorem bad_three {c : Chp} {fl : Bool} (hB : c.B = 8) (h : c.bad[3]? = some fl) : badS c 3 = fl := by
  unfold badS
  rw [if_pos (by rw [hB]; decide)]
  show (c.bad[3]?).getD false = fl
  rw [h]
  rfl
theorem less_at (w : World) (b1 : Nat) (v1 : Value) (xs : List UInt8) (B : Option Addr) (d n : Nat) (ys : List UInt8) (hn : ys.length = n) (h1 : OwnB 5 w b1 v1 xs) (hs : RV w B (bv ys)) (hy : n ≤ maxLen := by decide) :
    Calls Try.prog 19 #[v1, .slice B n d] w fun e w' => e = .returned (.bool (decide (lessS xs ys))) ∧ w = w' := by
  subst hn
  obtain ⟨A, c, rfl, hr, hl, hc, _⟩ := h1.slice
  exact less_any A c xs B d ys w hr hs (Nat.le_trans hl hc) hy

set_option maxRecDepth 100000 in
set_option maxHeartbeats 4000000 in
theorem walkNandLeaves (w : World) (A : Option Addr) (c : Nat) (xs : List UInt8) (hr : RV w A (bv xs)) (hR : xs.length ≤ 140737488351232) (A1 : Option Addr) (c1 : Nat) (ms : List UInt8) (hr1 : RV w A1 (bv ms)) (hl1 : ms.length ≤ c1) (hm1 : c1 ≤ maxLen) (hR1 : ms.length ≤ 140737488351232) (fl er : Bool) :
    Calls Try.prog 3 #[.slice A xs.length c, .slice A1 ms.length c1, .bool fl, .bool er] w fun e w' => e = .returned (.bool true) ∧ Below w.heap.size w w' := by
  have hmk := make_bytes (P := Try.prog) 22 5 Try.underlying22 u8info 128 (by decide)
  have hmk2 : ∀ W : World, (Instr.makeSlice 22 (.int .i64 128) (.int .i64 128)).run Try.prog W = .ok (.slice (some ⟨W.heap.size, 0, none⟩) 128 128) (W.alloc (.cells (madeCells #[.int .u8 0] 128) 5)) := hmk
  have HR := Lib.hid (And.intro hr (And.intro hr1 (And.intro hl1 (And.intro hm1 hR1))))
  obtain ⟨mn, hmn⟩ : ∃ mn, ms.length = mn := ⟨_, rfl⟩
  have HMN := Lib.hid hmn
  rw [hmn]
  clear hmk hr hr1 hl1 hm1 hR1 hmn
  go_enter Try.func3, Try.ntmps3
  go_wp2_with fail
  refine (small_any w).mono ?_
  rintro e w1 ⟨rfl, hb1⟩
  have H1 := Lib.hid hb1
  clear hb1
  go_wp2_with fail
  refine (new_any w1 8 4 128 0).mono ?_
  rintro e w2 ⟨hb2, -, hm2⟩
  obtain ⟨g, rfl, hp2⟩ := hm2 (by decide)
  have hc2 : CP w w2 g n0 := ⟨_, hp2, fun k hk => Nat.le_trans H1.out.size hk.1, below_then H1.out H1.out.size hb2⟩
  have H2 := Lib.hid hc2
  clear hb2 hp2 hm2 hc2
  have HW := Lib.hid (And.intro (RowB.made w2 5 128) ((Below.refl w2.heap.size w2).alloc (Nat.le_refl _) (.cells (madeCells #[.int .u8 0] 128) 5)))
  go_wp2_with fail
  go_loopg [12] 128 (fun k i wr => ∃ j : Nat, j + k = 128 ∧ i = .int .i64 j ∧ ∃ ws : List UInt8, ws.length = 128 ∧ RowB 5 wr w2.heap.size ws ∧ Below w2.heap.size w2 wr)
  case atStart => exact ⟨0, rfl, rfl, _, List.length_replicate, HW.out.1, HW.out.2⟩
  case round =>
    obtain ⟨j, hj, rfl, ws, hws, hrw, hbw⟩ := hrel
    have HJ := Lib.hid (And.intro hj (And.intro hws (And.intro hrw hbw)))
    clear hj hws hrw hbw
    by_cases hlt : j < 128
    · have hltI : (j : Int) < 128 := by omega
      have t1 : decide ((j : Int) < 128) = true := decide_eq_true hltI
      by_cases hx : 0 < xs.length
      · have hxI : (0 : Int) < (xs.length : Int) := by omega
        have t2 : decide ((0 : Int) < (xs.length : Int)) = true := decide_eq_true hxI
        have hmod : j % xs.length < xs.length := Nat.mod_lt _ hx
        obtain ⟨bd, rfl, hcx⟩ := ((HR.out.1.below H2.out.bel).below HJ.out.2.2.2).at_ (k := j % xs.length) (by rw [bv_length]; exact hmod)
        have ebm : (bv xs)[j % xs.length]'(by rw [bv_length]; exact hmod) = .int .u8 (xs[j % xs.length].toNat : Int) := by simp [bv]
        rw [ebm] at hcx
        clear ebm
        generalize xs[j % xs.length] = y at hcx
        have hfz := HJ.out.2.2.1.frozen j
        have hcell := HJ.out.2.2.1.cell (j := j) (List.getElem?_eq_getElem (show j < ws.length by rw [HJ.out.2.1]; exact hlt))
        generalize ((ws[j]'(by rw [HJ.out.2.1]; exact hlt)).toNat : Int) = z at hcell
        have hrem : Int.tmod (j : Int) (xs.length : Int) = ((j % xs.length : Nat) : Int) := by rw [Int.tmod_eq_emod_of_nonneg (by omega)]; simp
        have hmodI : ((j % xs.length : Nat) : Int) < (xs.length : Int) := by omega
        have hwrap : IntKind.i64.wrap ((j % xs.length : Nat) : Int) = ((j % xs.length : Nat) : Int) := IntWalk.i64_in _ (by omega)
        have hjw : IntKind.i64.wrap ((j : Int) + 1) = (j : Int) + 1 := IntWalk.i64_in _ (by omega)
        have hxne : ¬ (xs.length : Int) = 0 := by omega
        generalize j % xs.length = q at *
        clear hmod
        generalize xs.length = n at *
        go_wp2_with fail
        go_roundg (128 - (j + 1))
        case measure => have := HJ.out.1; omega
        case rel => exact ⟨j + 1, by have := HJ.out.1; omega, by go_num, ws.set j y, by rw [List.length_set]; exact HJ.out.2.1, HJ.out.2.2.1.set j y, HJ.out.2.2.2.setCell (p := ⟨w2.heap.size, j, none⟩) (Nat.le_refl _) _⟩
      · have hxI : ¬ (0 : Int) < (xs.length : Int) := by omega
        have t2 : decide ((0 : Int) < (xs.length : Int)) = false := decide_eq_false hxI
        generalize xs.length = n at *
        have hck0 : CK w wr g w2.heap.size ws n0 := CK.of H2.out HJ.out.2.2.2 (Nat.le_refl _) HJ.out.2.2.1
        have H3 := Lib.hid hck0
        clear hck0
        go_wp2_with fail
        refine (ck_prog H3.out 3 1 128 128 HJ.out.2.1).mono ?_
        rintro e w3 ⟨rfl, hc⟩
        have hc' : CK w w3 g w2.heap.size ws (n1 ws) := hc
        have H4 := Lib.hid hc'
        clear hc hc'
        rw [n1_code HJ.out.2.1]
        go_wp2_with fail
        refine (ck_read H4.out 3 1).mono ?_
        rintro e w4 ⟨v1, rfl, ho, hc⟩
        rw [n1_read HJ.out.2.1] at ho ⊢
        have H5 := Lib.hid (And.intro ho hc)
        clear ho hc
        go_wp2_with fail
        refine (same_at w4 _ v1 ws (some ⟨w2.heap.size, 0, none⟩) 128 128 ws HJ.out.2.1 H5.out.1 H5.out.2.row.rv).mono ?_
        rintro e w5 ⟨rfl, hd⟩
        rw [decide_eq_true rfl]
        have H6 := Lib.hid (H5.out.2.later (hd.below _))
        clear hd H5
        have H7 := Lib.hid (ck_hits H6.out A1 c1 ms HR.out.2.1 HR.out.2.2.1 HR.out.2.2.2.1 HR.out.2.2.2.2 fl mn HMN.out)
        go_wp2_with fail
        refine H7.out.mono ?_
        rintro e w6 ⟨rfl, hc⟩
        have hc' : CK w w6 g w2.heap.size ws (n2 ws ms fl) := hc
        have H8 := Lib.hid hc'
        clear hc hc' H7
        rw [show (hitsS (n1 ws) [⟨0, fl, ms⟩]).2 = 0 from rfl]
        have hws := HJ.out.2.1
        cases er with
        | true =>
          go_wp2_with fail
          refine (ck_erase H8.out 3).mono ?_
          rintro e w7 ⟨rfl, ck⟩
          have lv := erase_leaves (mask := ms) (fl := fl) HJ.out.2.1
          generalize eraseS (n2 ws ms fl) 3 = r at lv ck ⊢
          have HLV := Lib.hid (And.intro lv (And.intro ck (And.intro hws HMN.out)))
          clear lv ck
          cases fl with
          | false =>
            rw [show r.2 = 10 from HLV.out.1.code]
            go_wp2_with fail
            refine (ck_power HLV.out.2.1).mono ?_
            rintro e wp ⟨g2, rfl, hcp⟩
            have HP := Lib.hid hcp
            clear hcp
            go_wp2_with fail
            refine (ck_read HP.out 3 (1 : Nat)).mono ?_
            rintro e wq ⟨v, rfl, ho, hcq⟩
            obtain ⟨l, hl, hup⟩ := HLV.out.1.left
            rw [hl] at ho ⊢
            clear hl
            have HQ := Lib.hid (And.intro ho (And.intro hcq (up_less hup)))
            clear ho hcq hup
            go_wp2_with fail
            refine (ck_bad HQ.out.2.1 3).mono ?_
            rintro e wb2 ⟨rfl, hwb⟩
            obtain rfl := hwb.symm
            clear hwb
            rw [bad_three (c := powerS r.1) HLV.out.1.B HLV.out.1.bad]
            go_wp2_with fail
            refine (same_at wq _ v l (some ⟨w2.heap.size, 0, none⟩) 128 128 ws HJ.out.2.1 HQ.out.1 HQ.out.2.1.row.rv).mono ?_
            rintro e ws2 ⟨rfl, hd⟩
            have HS := Lib.hid (And.intro (HQ.out.1.drawn hd) (And.intro (HQ.out.2.1.later (hd.below _)) HQ.out.2.2))
            clear hd HQ
            by_cases hne : l = ws
            · rw [decide_eq_true hne]
              go_wp2_with fail
              refine (works_any ws2).mono ?_
              rintro e wl ⟨rfl, hbl⟩
              have HZ := Lib.hid (below_then HS.out.2.1.bel HS.out.2.1.bel.size hbl)
              clear hbl
              go_wp2_with fail
              go_ret
              exact ⟨rfl, HZ.out⟩
            · rw [decide_eq_false hne]
              go_wp2_with fail
              refine (less_at ws2 _ v l (some ⟨w2.heap.size, 0, none⟩) 128 128 ws HJ.out.2.1 HS.out.1 HS.out.2.1.row.rv).mono ?_
              rintro e wm ⟨rfl, hwm⟩
              obtain rfl := hwm
              rw [decide_eq_true (HS.out.2.2.resolve_left hne)]
              go_wp2_with fail
              refine (works_any ws2).mono ?_
              rintro e wl ⟨rfl, hbl⟩
              have HZ := Lib.hid (below_then HS.out.2.1.bel HS.out.2.1.bel.size hbl)
              clear hbl
              go_wp2_with fail
              go_ret
              exact ⟨rfl, HZ.out⟩
          | true =>
            rw [show r.2 = 9 from HLV.out.1.code]
            go_wp2_with fail
            refine (ck_bad HLV.out.2.1 3).mono ?_
            rintro e wb ⟨rfl, hwb⟩
            obtain rfl := hwb.symm
            rw [bad_three HLV.out.1.B HLV.out.1.bad]
            go_wp2_with fail
            refine (ck_power HLV.out.2.1).mono ?_
            rintro e wp ⟨g2, rfl, hcp⟩
            have HP := Lib.hid hcp
            clear hcp
            go_wp2_with fail
            refine (ck_read HP.out 3 (1 : Nat)).mono ?_
            rintro e wq ⟨v, rfl, ho, hcq⟩
            obtain ⟨l, hl, hup⟩ := HLV.out.1.left
            rw [hl] at ho ⊢
            clear hl
            have HQ := Lib.hid (And.intro ho (And.intro hcq (up_less hup)))
            clear ho hcq hup
            go_wp2_with fail
            refine (ck_bad HQ.out.2.1 3).mono ?_
            rintro e wb2 ⟨rfl, hwb⟩
            obtain rfl := hwb.symm
            clear hwb
            rw [bad_three (c := powerS r.1) HLV.out.1.B HLV.out.1.bad]
            go_wp2_with fail
            refine (same_at wq _ v l (some ⟨w2.heap.size, 0, none⟩) 128 128 ws HJ.out.2.1 HQ.out.1 HQ.out.2.1.row.rv).mono ?_
            rintro e ws2 ⟨rfl, hd⟩
            have HS := Lib.hid (And.intro (HQ.out.1.drawn hd) (And.intro (HQ.out.2.1.later (hd.below _)) HQ.out.2.2))
            clear hd HQ
            by_cases hne : l = ws
            · rw [decide_eq_true hne]
              go_wp2_with fail
              refine (works_any ws2).mono ?_
              rintro e wl ⟨rfl, hbl⟩
              have HZ := Lib.hid (below_then HS.out.2.1.bel HS.out.2.1.bel.size hbl)
              clear hbl
              go_wp2_with fail
              go_ret
              exact ⟨rfl, HZ.out⟩
            · rw [decide_eq_false hne]
              go_wp2_with fail
              refine (less_at ws2 _ v l (some ⟨w2.heap.size, 0, none⟩) 128 128 ws HJ.out.2.1 HS.out.1 HS.out.2.1.row.rv).mono ?_
              rintro e wm ⟨rfl, hwm⟩
              obtain rfl := hwm
              rw [decide_eq_true (HS.out.2.2.resolve_left hne)]
              go_wp2_with fail
              refine (works_any ws2).mono ?_
              rintro e wl ⟨rfl, hbl⟩
              have HZ := Lib.hid (below_then HS.out.2.1.bel HS.out.2.1.bel.size hbl)
              clear hbl
              go_wp2_with fail
              go_ret
              exact ⟨rfl, HZ.out⟩
        | false =>
          go_wp2_with fail
          refine (ck_prog H8.out 3 2 128 128 HJ.out.2.1).mono ?_
          rintro e w7 ⟨rfl, ck⟩
          have lv := prog_leaves (mask := ms) (fl := fl) HJ.out.2.1
          generalize programS (n2 ws ms fl) 3 2 ws = r at lv ck ⊢
          have HLV := Lib.hid (And.intro lv (And.intro ck (And.intro hws HMN.out)))
          clear lv ck
          cases fl with
          | false =>
            rw [show r.2 = 10 from HLV.out.1.code]
            go_wp2_with fail
            refine (ck_power HLV.out.2.1).mono ?_
            rintro e wp ⟨g2, rfl, hcp⟩
            have HP := Lib.hid hcp
            clear hcp
            go_wp2_with fail
            refine (ck_read HP.out 3 (2 : Nat)).mono ?_
            rintro e wq ⟨v, rfl, ho, hcq⟩
            obtain ⟨l, hl, hup⟩ := HLV.out.1.left
            rw [hl] at ho ⊢
            clear hl
            have HQ := Lib.hid (And.intro ho (And.intro hcq (up_less hup)))
            clear ho hcq hup
            go_wp2_with fail
            refine (ck_bad HQ.out.2.1 3).mono ?_
            rintro e wb2 ⟨rfl, hwb⟩
            obtain rfl := hwb.symm
            clear hwb
            rw [bad_three (c := powerS r.1) HLV.out.1.B HLV.out.1.bad]
            go_wp2_with fail
            refine (same_at wq _ v l (some ⟨w2.heap.size, 0, none⟩) 128 128 ws HJ.out.2.1 HQ.out.1 HQ.out.2.1.row.rv).mono ?_
            rintro e ws2 ⟨rfl, hd⟩
            have HS := Lib.hid (And.intro (HQ.out.1.drawn hd) (And.intro (HQ.out.2.1.later (hd.below _)) HQ.out.2.2))
            clear hd HQ
            by_cases hne : l = ws
            · rw [decide_eq_true hne]
              go_wp2_with fail
              refine (works_any ws2).mono ?_
              rintro e wl ⟨rfl, hbl⟩
              have HZ := Lib.hid (below_then HS.out.2.1.bel HS.out.2.1.bel.size hbl)
              clear hbl
              go_wp2_with fail
              go_ret
              exact ⟨rfl, HZ.out⟩
            · rw [decide_eq_false hne]
              go_wp2_with fail
              refine (less_at ws2 _ v l (some ⟨w2.heap.size, 0, none⟩) 128 128 ws HJ.out.2.1 HS.out.1 HS.out.2.1.row.rv).mono ?_
              rintro e wm ⟨rfl, hwm⟩
              obtain rfl := hwm
              rw [decide_eq_true (HS.out.2.2.resolve_left hne)]
              go_wp2_with fail
              refine (works_any ws2).mono ?_
              rintro e wl ⟨rfl, hbl⟩
              have HZ := Lib.hid (below_then HS.out.2.1.bel HS.out.2.1.bel.size hbl)
              clear hbl
              go_wp2_with fail
              go_ret
              exact ⟨rfl, HZ.out⟩
          | true =>
            rw [show r.2 = 9 from HLV.out.1.code]
            go_wp2_with fail
            refine (ck_bad HLV.out.2.1 3).mono ?_
            rintro e wb ⟨rfl, hwb⟩
            obtain rfl := hwb.symm
            rw [bad_three HLV.out.1.B HLV.out.1.bad]
            go_wp2_with fail
            refine (ck_power HLV.out.2.1).mono ?_
            rintro e wp ⟨g2, rfl, hcp⟩
            have HP := Lib.hid hcp
            clear hcp
            go_wp2_with fail
            refine (ck_read HP.out 3 (2 : Nat)).mono ?_
            rintro e wq ⟨v, rfl, ho, hcq⟩
            obtain ⟨l, hl, hup⟩ := HLV.out.1.left
            rw [hl] at ho ⊢
            clear hl
            have HQ := Lib.hid (And.intro ho (And.intro hcq (up_less hup)))
            clear ho hcq hup
            go_wp2_with fail
            refine (ck_bad HQ.out.2.1 3).mono ?_
            rintro e wb2 ⟨rfl, hwb⟩
            obtain rfl := hwb.symm
            clear hwb
            rw [bad_three (c := powerS r.1) HLV.out.1.B HLV.out.1.bad]
            go_wp2_with fail
            refine (same_at wq _ v l (some ⟨w2.heap.size, 0, none⟩) 128 128 ws HJ.out.2.1 HQ.out.1 HQ.out.2.1.row.rv).mono ?_
            rintro e ws2 ⟨rfl, hd⟩
            have HS := Lib.hid (And.intro (HQ.out.1.drawn hd) (And.intro (HQ.out.2.1.later (hd.below _)) HQ.out.2.2))
            clear hd HQ
            by_cases hne : l = ws
            · rw [decide_eq_true hne]
              go_wp2_with fail
              refine (works_any ws2).mono ?_
              rintro e wl ⟨rfl, hbl⟩
              have HZ := Lib.hid (below_then HS.out.2.1.bel HS.out.2.1.bel.size hbl)
              clear hbl
              go_wp2_with fail
              go_ret
              exact ⟨rfl, HZ.out⟩
            · rw [decide_eq_false hne]
              go_wp2_with fail
              refine (less_at ws2 _ v l (some ⟨w2.heap.size, 0, none⟩) 128 128 ws HJ.out.2.1 HS.out.1 HS.out.2.1.row.rv).mono ?_
              rintro e wm ⟨rfl, hwm⟩
              obtain rfl := hwm
              rw [decide_eq_true (HS.out.2.2.resolve_left hne)]
              go_wp2_with fail
              refine (works_any ws2).mono ?_
              rintro e wl ⟨rfl, hbl⟩
              have HZ := Lib.hid (below_then HS.out.2.1.bel HS.out.2.1.bel.size hbl)
              clear hbl
              go_wp2_with fail
              go_ret
              exact ⟨rfl, HZ.out⟩
    · have hj8 : j = 128 := by have := HJ.out.1; omega
      subst hj8
      have hck0 : CK w wr g w2.heap.size ws n0 := CK.of H2.out HJ.out.2.2.2 (Nat.le_refl _) HJ.out.2.2.1
      have H3 := Lib.hid hck0
      clear hck0
      go_wp2_with fail
      refine (ck_prog H3.out 3 1 128 128 HJ.out.2.1).mono ?_
      rintro e w3 ⟨rfl, hc⟩
      have hc' : CK w w3 g w2.heap.size ws (n1 ws) := hc
      have H4 := Lib.hid hc'
      clear hc hc'
      rw [n1_code HJ.out.2.1]
      go_wp2_with fail
      refine (ck_read H4.out 3 1).mono ?_
      rintro e w4 ⟨v1, rfl, ho, hc⟩
      rw [n1_read HJ.out.2.1] at ho ⊢
      have H5 := Lib.hid (And.intro ho hc)
      clear ho hc
      go_wp2_with fail
      refine (same_at w4 _ v1 ws (some ⟨w2.heap.size, 0, none⟩) 128 128 ws HJ.out.2.1 H5.out.1 H5.out.2.row.rv).mono ?_
      rintro e w5 ⟨rfl, hd⟩
      rw [decide_eq_true rfl]
      have H6 := Lib.hid (H5.out.2.later (hd.below _))
      clear hd H5
      have H7 := Lib.hid (ck_hits H6.out A1 c1 ms HR.out.2.1 HR.out.2.2.1 HR.out.2.2.2.1 HR.out.2.2.2.2 fl mn HMN.out)
      go_wp2_with fail
      refine H7.out.mono ?_
      rintro e w6 ⟨rfl, hc⟩
      have hc' : CK w w6 g w2.heap.size ws (n2 ws ms fl) := hc
      have H8 := Lib.hid hc'
      clear hc hc' H7
      rw [show (hitsS (n1 ws) [⟨0, fl, ms⟩]).2 = 0 from rfl]
      have hws := HJ.out.2.1
      cases er with
      | true =>
        go_wp2_with fail
        refine (ck_erase H8.out 3).mono ?_
        rintro e w7 ⟨rfl, ck⟩
        have lv := erase_leaves (mask := ms) (fl := fl) HJ.out.2.1
        generalize eraseS (n2 ws ms fl) 3 = r at lv ck ⊢
        have HLV := Lib.hid (And.intro lv (And.intro ck (And.intro hws HMN.out)))
        clear lv ck
        cases fl with
        | false =>
          rw [show r.2 = 10 from HLV.out.1.code]
          go_wp2_with fail
          refine (ck_power HLV.out.2.1).mono ?_
          rintro e wp ⟨g2, rfl, hcp⟩
          have HP := Lib.hid hcp
          clear hcp
          go_wp2_with fail
          refine (ck_read HP.out 3 (1 : Nat)).mono ?_
          rintro e wq ⟨v, rfl, ho, hcq⟩
          obtain ⟨l, hl, hup⟩ := HLV.out.1.left
          rw [hl] at ho ⊢
          clear hl
          have HQ := Lib.hid (And.intro ho (And.intro hcq (up_less hup)))
          clear ho hcq hup
          go_wp2_with fail
          refine (ck_bad HQ.out.2.1 3).mono ?_
          rintro e wb2 ⟨rfl, hwb⟩
          obtain rfl := hwb.symm
          clear hwb
          rw [bad_three (c := powerS r.1) HLV.out.1.B HLV.out.1.bad]
          go_wp2_with fail
          refine (same_at wq _ v l (some ⟨w2.heap.size, 0, none⟩) 128 128 ws HJ.out.2.1 HQ.out.1 HQ.out.2.1.row.rv).mono ?_
          rintro e ws2 ⟨rfl, hd⟩
          have HS := Lib.hid (And.intro (HQ.out.1.drawn hd) (And.intro (HQ.out.2.1.later (hd.below _)) HQ.out.2.2))
          clear hd HQ
          by_cases hne : l = ws
          · rw [decide_eq_true hne]
            go_wp2_with fail
            refine (works_any ws2).mono ?_
            rintro e wl ⟨rfl, hbl⟩
            have HZ := Lib.hid (below_then HS.out.2.1.bel HS.out.2.1.bel.size hbl)
            clear hbl
            go_wp2_with fail
            go_ret
            exact ⟨rfl, HZ.out⟩
          · rw [decide_eq_false hne]
            go_wp2_with fail
            refine (less_at ws2 _ v l (some ⟨w2.heap.size, 0, none⟩) 128 128 ws HJ.out.2.1 HS.out.1 HS.out.2.1.row.rv).mono ?_
            rintro e wm ⟨rfl, hwm⟩
            obtain rfl := hwm
            rw [decide_eq_true (HS.out.2.2.resolve_left hne)]
            go_wp2_with fail
            refine (works_any ws2).mono ?_
            rintro e wl ⟨rfl, hbl⟩
            have HZ := Lib.hid (below_then HS.out.2.1.bel HS.out.2.1.bel.size hbl)
            clear hbl
            go_wp2_with fail
            go_ret
            exact ⟨rfl, HZ.out⟩
        | true =>
          rw [show r.2 = 9 from HLV.out.1.code]
          go_wp2_with fail
          refine (ck_bad HLV.out.2.1 3).mono ?_
          rintro e wb ⟨rfl, hwb⟩
          obtain rfl := hwb.symm
          rw [bad_three HLV.out.1.B HLV.out.1.bad]
          go_wp2_with fail
          refine (ck_power HLV.out.2.1).mono ?_
          rintro e wp ⟨g2, rfl, hcp⟩
          have HP := Lib.hid hcp
          clear hcp
          go_wp2_with fail
          refine (ck_read HP.out 3 (1 : Nat)).mono ?_
          rintro e wq ⟨v, rfl, ho, hcq⟩
          obtain ⟨l, hl, hup⟩ := HLV.out.1.left
          rw [hl] at ho ⊢
          clear hl
          have HQ := Lib.hid (And.intro ho (And.intro hcq (up_less hup)))
          clear ho hcq hup
          go_wp2_with fail
          refine (ck_bad HQ.out.2.1 3).mono ?_
          rintro e wb2 ⟨rfl, hwb⟩
          obtain rfl := hwb.symm
          clear hwb
          rw [bad_three (c := powerS r.1) HLV.out.1.B HLV.out.1.bad]
          go_wp2_with fail
          refine (same_at wq _ v l (some ⟨w2.heap.size, 0, none⟩) 128 128 ws HJ.out.2.1 HQ.out.1 HQ.out.2.1.row.rv).mono ?_
          rintro e ws2 ⟨rfl, hd⟩
          have HS := Lib.hid (And.intro (HQ.out.1.drawn hd) (And.intro (HQ.out.2.1.later (hd.below _)) HQ.out.2.2))
          clear hd HQ
          by_cases hne : l = ws
          · rw [decide_eq_true hne]
            go_wp2_with fail
            refine (works_any ws2).mono ?_
            rintro e wl ⟨rfl, hbl⟩
            have HZ := Lib.hid (below_then HS.out.2.1.bel HS.out.2.1.bel.size hbl)
            clear hbl
            go_wp2_with fail
            go_ret
            exact ⟨rfl, HZ.out⟩
          · rw [decide_eq_false hne]
            go_wp2_with fail
            refine (less_at ws2 _ v l (some ⟨w2.heap.size, 0, none⟩) 128 128 ws HJ.out.2.1 HS.out.1 HS.out.2.1.row.rv).mono ?_
            rintro e wm ⟨rfl, hwm⟩
            obtain rfl := hwm
            rw [decide_eq_true (HS.out.2.2.resolve_left hne)]
            go_wp2_with fail
            refine (works_any ws2).mono ?_
            rintro e wl ⟨rfl, hbl⟩
            have HZ := Lib.hid (below_then HS.out.2.1.bel HS.out.2.1.bel.size hbl)
            clear hbl
            go_wp2_with fail
            go_ret
            exact ⟨rfl, HZ.out⟩
      | false =>
        go_wp2_with fail
        refine (ck_prog H8.out 3 2 128 128 HJ.out.2.1).mono ?_
        rintro e w7 ⟨rfl, ck⟩
        have lv := prog_leaves (mask := ms) (fl := fl) HJ.out.2.1
        generalize programS (n2 ws ms fl) 3 2 ws = r at lv ck ⊢
        have HLV := Lib.hid (And.intro lv (And.intro ck (And.intro hws HMN.out)))
        clear lv ck
        cases fl with
        | false =>
          rw [show r.2 = 10 from HLV.out.1.code]
          go_wp2_with fail
          refine (ck_power HLV.out.2.1).mono ?_
          rintro e wp ⟨g2, rfl, hcp⟩
          have HP := Lib.hid hcp
          clear hcp
          go_wp2_with fail
          refine (ck_read HP.out 3 (2 : Nat)).mono ?_
          rintro e wq ⟨v, rfl, ho, hcq⟩
          obtain ⟨l, hl, hup⟩ := HLV.out.1.left
          rw [hl] at ho ⊢
          clear hl
          have HQ := Lib.hid (And.intro ho (And.intro hcq (up_less hup)))
          clear ho hcq hup
          go_wp2_with fail
          refine (ck_bad HQ.out.2.1 3).mono ?_
          rintro e wb2 ⟨rfl, hwb⟩
          obtain rfl := hwb.symm
          clear hwb
          rw [bad_three (c := powerS r.1) HLV.out.1.B HLV.out.1.bad]
          go_wp2_with fail
          refine (same_at wq _ v l (some ⟨w2.heap.size, 0, none⟩) 128 128 ws HJ.out.2.1 HQ.out.1 HQ.out.2.1.row.rv).mono ?_
          rintro e ws2 ⟨rfl, hd⟩
          have HS := Lib.hid (And.intro (HQ.out.1.drawn hd) (And.intro (HQ.out.2.1.later (hd.below _)) HQ.out.2.2))
          clear hd HQ
          by_cases hne : l = ws
          · rw [decide_eq_true hne]
            go_wp2_with fail
            refine (works_any ws2).mono ?_
            rintro e wl ⟨rfl, hbl⟩
            have HZ := Lib.hid (below_then HS.out.2.1.bel HS.out.2.1.bel.size hbl)
            clear hbl
            go_wp2_with fail
            go_ret
            exact ⟨rfl, HZ.out⟩
          · rw [decide_eq_false hne]
            go_wp2_with fail
            refine (less_at ws2 _ v l (some ⟨w2.heap.size, 0, none⟩) 128 128 ws HJ.out.2.1 HS.out.1 HS.out.2.1.row.rv).mono ?_
            rintro e wm ⟨rfl, hwm⟩
            obtain rfl := hwm
            rw [decide_eq_true (HS.out.2.2.resolve_left hne)]
            go_wp2_with fail
            refine (works_any ws2).mono ?_
            rintro e wl ⟨rfl, hbl⟩
            have HZ := Lib.hid (below_then HS.out.2.1.bel HS.out.2.1.bel.size hbl)
            clear hbl
            go_wp2_with fail
            go_ret
            exact ⟨rfl, HZ.out⟩
        | true =>
          rw [show r.2 = 9 from HLV.out.1.code]
          go_wp2_with fail
          refine (ck_bad HLV.out.2.1 3).mono ?_
          rintro e wb ⟨rfl, hwb⟩
          obtain rfl := hwb.symm
          rw [bad_three HLV.out.1.B HLV.out.1.bad]
          go_wp2_with fail
          refine (ck_power HLV.out.2.1).mono ?_
          rintro e wp ⟨g2, rfl, hcp⟩
          have HP := Lib.hid hcp
          clear hcp
          go_wp2_with fail
          refine (ck_read HP.out 3 (2 : Nat)).mono ?_
          rintro e wq ⟨v, rfl, ho, hcq⟩
          obtain ⟨l, hl, hup⟩ := HLV.out.1.left
          rw [hl] at ho ⊢
          clear hl
          have HQ := Lib.hid (And.intro ho (And.intro hcq (up_less hup)))
          clear ho hcq hup
          go_wp2_with fail
          refine (ck_bad HQ.out.2.1 3).mono ?_
          rintro e wb2 ⟨rfl, hwb⟩
          obtain rfl := hwb.symm
          clear hwb
          rw [bad_three (c := powerS r.1) HLV.out.1.B HLV.out.1.bad]
          go_wp2_with fail
          refine (same_at wq _ v l (some ⟨w2.heap.size, 0, none⟩) 128 128 ws HJ.out.2.1 HQ.out.1 HQ.out.2.1.row.rv).mono ?_
          rintro e ws2 ⟨rfl, hd⟩
          have HS := Lib.hid (And.intro (HQ.out.1.drawn hd) (And.intro (HQ.out.2.1.later (hd.below _)) HQ.out.2.2))
          clear hd HQ
          by_cases hne : l = ws
          · rw [decide_eq_true hne]
            go_wp2_with fail
            refine (works_any ws2).mono ?_
            rintro e wl ⟨rfl, hbl⟩
            have HZ := Lib.hid (below_then HS.out.2.1.bel HS.out.2.1.bel.size hbl)
            clear hbl
            go_wp2_with fail
            go_ret
            exact ⟨rfl, HZ.out⟩
          · rw [decide_eq_false hne]
            go_wp2_with fail
            refine (less_at ws2 _ v l (some ⟨w2.heap.size, 0, none⟩) 128 128 ws HJ.out.2.1 HS.out.1 HS.out.2.1.row.rv).mono ?_
            rintro e wm ⟨rfl, hwm⟩
            obtain rfl := hwm
            rw [decide_eq_true (HS.out.2.2.resolve_left hne)]
            go_wp2_with fail
            refine (works_any ws2).mono ?_
            rintro e wl ⟨rfl, hbl⟩
            have HZ := Lib.hid (below_then HS.out.2.1.bel HS.out.2.1.bel.size hbl)
            clear hbl
            go_wp2_with fail
            go_ret
            exact ⟨rfl, HZ.out⟩
end Go.Proofs.Ytlcdabmclcfagaa
