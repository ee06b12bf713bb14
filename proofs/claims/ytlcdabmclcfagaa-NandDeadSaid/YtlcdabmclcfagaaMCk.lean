import Derived.Test.YtlcdabmclcfagaaWorks03M
import Derived.Test.YtlcdabmclcfagaaSameKM
import Derived.Test.YtlcdabmclcfagaaPldM
set_option linter.unusedVariables false
set_option linter.unusedSimpArgs false
/- A chip of the call's own beside a row of bytes of the call's own; what is dead. -/
namespace Go.Proofs.Ytlcdabmclcfagaa
open Go.RowKit

structure CK (w W : World) (g k : Nat) (ws : List UInt8) (c : Chp) : Prop where
  pc : ∃ F, PC W F g c ∧ ∀ i, F i → w.heap.size ≤ i ∧ i ≠ k
  bel : Below w.heap.size w W
  row : RowB 5 W k ws
theorem CK.later {w W W' : World} {g k : Nat} {ws : List UInt8} {c : Chp} (h : CK w W g k ws c) (hb : Below W.heap.size W W') : CK w W' g k ws c := by
  obtain ⟨⟨F, h1, h2⟩, h3, h4⟩ := h
  exact ⟨⟨F, h1.below hb, h2⟩, below_then h3 h3.size hb, h4.belowAll hb⟩
theorem CK.of {w W W' : World} {g k : Nat} {ws : List UInt8} {c : Chp} (h : CP w W g c) (hb : Below W.heap.size W W') (hk : W.heap.size ≤ k) (hr : RowB 5 W' k ws) : CK w W' g k ws c := by
  obtain ⟨F, h1, h2, h3⟩ := h
  exact ⟨⟨F, h1.below hb, fun i hi => ⟨h2 i hi, by have := h1.lt i hi; omega⟩⟩, below_then h3 h3.size hb, hr⟩
theorem ck_prog2 {w W W1 : World} {g k : Nat} {ws : List UInt8} {c : Chp} (h : CK w W g k ws c) (hb : Below W.heap.size W W1) (b p : Int) (A : Option Addr) (n d : Nat) (xs : List UInt8) (hn : xs.length = n) (hr : RV W1 A (bv xs)) (hA : ∀ ad, A = some ad → 0 < n → ad.block < w.heap.size ∨ W.heap.size ≤ ad.block) :
    Calls Try.prog 12 #[.pointer (some ⟨g, 0, none⟩), .int .i64 b, .int .i64 p, .slice A n d] W1 fun e w' => e = .returned (.int .i64 ((programS c b p xs).2 : Int)) ∧ CK w w' g k ws (programS c b p xs).1 := by
  have hx := h.later hb
  obtain ⟨⟨F, h1, h2⟩, h3, h4⟩ := h
  have hlt := h1.lt
  obtain ⟨L, h1'⟩ := h1.below hb
  refine (program_pc h1' b p A n d xs hn hr fun ad he h0 hF => ?_).mono ?_
  · rcases hA ad he h0 with h5 | h5
    · have := (h2 _ hF).1
      omega
    · have := hlt _ hF
      omega
  rintro e w' ⟨he, hp, ht⟩
  exact ⟨he, ⟨F, hp, h2⟩, hx.bel.trans (ht.below (fun i hi => (h2 i hi).1) hx.bel.size), hx.row.heap (ht.block k hx.row.lt fun hF => (h2 _ hF).2 rfl)⟩
theorem ck_erase {w W : World} {g k : Nat} {ws : List UInt8} {c : Chp} (h : CK w W g k ws c) (b : Int) :
    Calls Try.prog 16 #[.pointer (some ⟨g, 0, none⟩), .int .i64 b] W fun e w' => e = .returned (.int .i64 ((eraseS c b).2 : Int)) ∧ CK w w' g k ws (eraseS c b).1 := by
  obtain ⟨⟨F, ⟨L, h1⟩, h2⟩, h3, h4⟩ := h
  refine (erase_pc h1 b).mono ?_
  rintro e w' ⟨he, hp, ht⟩
  exact ⟨he, ⟨F, hp, h2⟩, h3.trans (ht.below (fun i hi => (h2 i hi).1) h3.size), h4.heap (ht.block k h4.lt fun hF => (h2 _ hF).2 rfl)⟩
theorem ck_power {w W : World} {g k : Nat} {ws : List UInt8} {c : Chp} (h : CK w W g k ws c) :
    Calls Try.prog 18 #[.pointer (some ⟨g, 0, none⟩)] W fun e w' => ∃ g', e = .returned (.tuple #[.pointer (some ⟨g', 0, none⟩), .int .i64 0]) ∧ CK w w' g' k ws (powerS c) ∧ CK w w' g k ws c := by
  have h0 := h
  obtain ⟨⟨F, ⟨L, h1⟩, h2⟩, h3, h4⟩ := h
  refine (power_pc h1).mono ?_
  rintro e w' ⟨g', he, hp, hb⟩
  exact ⟨g', he, ⟨⟨_, hp, fun i hi => ⟨Nat.le_trans h3.size hi.1, by have := hi.1; have := h4.lt; omega⟩⟩, below_then h3 h3.size hb, h4.belowAll hb⟩, h0.later hb⟩
theorem ck_read {w W : World} {g k : Nat} {ws : List UInt8} {c : Chp} (h : CK w W g k ws c) (b p : Int) :
    Calls Try.prog 13 #[.pointer (some ⟨g, 0, none⟩), .int .i64 b, .int .i64 p] W fun e w' => ∃ v, e = .returned (.tuple #[v, .int .i64 ((readS c b p).2 : Int)]) ∧ OwnB 5 w' W.heap.size v (readS c b p).1 ∧ CK w w' g k ws c := by
  have h0 := h
  obtain ⟨⟨F, ⟨L, h1⟩, h2⟩, h3, h4⟩ := h
  refine (read_pc h1 b p).mono ?_
  rintro e w' ⟨v, he, ho, hb⟩
  exact ⟨v, he, ho, h0.later hb⟩
theorem ck_bytes {w W : World} {g k : Nat} {ws : List UInt8} {c : Chp} (h : CK w W g k ws c) :
    Calls Try.prog 22 #[.pointer (some ⟨g, 0, none⟩)] W fun e w' => ∃ v, e = .returned v ∧ OwnB 5 w' W.heap.size v c.bytes ∧ Below W.heap.size W w' := by
  obtain ⟨⟨F, ⟨L, h1⟩, h2⟩, h3, h4⟩ := h
  refine (bytes_pc h1).mono ?_
  rintro e w' ⟨v, he, ho, hb⟩
  exact ⟨v, he, ho, hb⟩
theorem ck_deeds {w W : World} {g k : Nat} {ws : List UInt8} {c : Chp} (h : CK w W g k ws c) :
    Calls Try.prog 24 #[.pointer (some ⟨g, 0, none⟩)] W fun e w' => e = .returned (.int .i64 c.deeds) ∧ w' = W := by
  obtain ⟨⟨F, ⟨L, h1⟩, h2⟩, h3, h4⟩ := h
  exact deeds_pc h1
theorem CK.ok {w W : World} {g k : Nat} {ws : List UInt8} {c : Chp} (h : CK w W g k ws c) : ChOk c := by
  obtain ⟨⟨F, h1, _⟩, _, _⟩ := h
  exact h1.ok
theorem CP.ok {w W : World} {g : Nat} {c : Chp} (h : CP w W g c) : ChOk c := by
  obtain ⟨F, h1, _⟩ := h
  exact h1.ok
theorem ChOk.pos {c : Chp} (h : ChOk c) : 0 < c.bytes.length ∧ c.bytes.length ≤ 524288 := by
  have h1 := h.n
  have h2 := h.b1
  have h3 : 8 * 512 ≤ c.B * c.N := Nat.mul_le_mul h.b1 h1.1
  rw [h.len]
  omega
/-- A row of the call's own that is not empty. -/
theorem OwnB.row {w : World} {base : Nat} {v : Value} {xs : List UInt8} (h : OwnB 5 w base v xs) (h0 : 0 < xs.length) :
    ∃ g full, v = .slice (some ⟨g, 0, none⟩) xs.length full.length ∧ base ≤ g ∧ RowB 5 w g full ∧ full.take xs.length = xs ∧ full.length ≤ maxLen := by
  rcases h with ⟨_, rfl⟩ | h
  · simp at h0
  · exact h
theorem RowB.rvTake {w : World} {g : Nat} {full xs : List UInt8} (h : RowB 5 w g full) (ht : full.take xs.length = xs) : RV w (some ⟨g, 0, none⟩) (bv xs) := by
  have h1 := h.rv.take xs.length
  rwa [← bv_take, ht] at h1

/-! ### dead -/
theorem programS_dead {c : Chp} (h : c.dead = true) (b p : Int) (ws : List UInt8) : programS c b p ws = (c, 10) := by
  unfold programS
  rw [if_pos h]
theorem eraseS_dead {c : Chp} (h : c.dead = true) (b : Int) : eraseS c b = (c, 10) := by
  unfold eraseS
  rw [if_pos h]
theorem readS_dead {c : Chp} (h : c.dead = true) (b p : Int) : readS c b p = ([], 10) := by
  have : askS c b p = 10 := by unfold askS; rw [if_pos h]
  unfold readS
  rw [this, if_pos (by decide)]
theorem doneS_ten (c : Chp) (b at_ : Nat) (ws : List UInt8) : (doneS c b at_ ws).2 = 10 → (doneS c b at_ ws).1.dead = true := by
  unfold doneS
  dsimp only
  split
  · intro h; cases h
  · split
    · intro h; cases h
    · intro _; rfl
theorem eraseS_ten (c : Chp) (b : Int) : (eraseS c b).2 = 10 → (eraseS c b).1.dead = true := by
  unfold eraseS
  split
  · rename_i h
    exact fun _ => h
  · split
    · intro h; cases h
    · split
      · intro h; cases h
      · exact doneS_ten _ _ _ _
theorem hits_lit255 (w : World) : HitsP ((w.alloc (.cells #[.int .u8 255] 5)).alloc (.cells #[.int .i64 0, .bool false, .slice (some ⟨w.heap.size, 0, none⟩) 1 1] 36)) (fun k => w.heap.size ≤ k) (some ⟨w.heap.size + 1, 0, none⟩) [⟨0, false, [255]⟩] := by
  have hs : (w.alloc (.cells #[.int .u8 255] 5)).heap.size = w.heap.size + 1 := alloc_sz _ _
  have hB := Blk.new (w.alloc (.cells #[.int .u8 255] 5)) 36 #[.int .i64 0, .bool false, .slice (some ⟨w.heap.size, 0, none⟩) 1 1]
  rw [hs] at hB
  have hR := ((RowB.new w 5 [255]).alloc (.cells #[.int .i64 0, .bool false, .slice (some ⟨w.heap.size, 0, none⟩) 1 1] 36)).rv
  intro i h hi
  match i, hi with
  | 0, hi =>
    obtain rfl : (⟨0, false, [255]⟩ : Htt) = h := by simpa using hi
    exact ⟨_, _, 1, rfl, Nat.le_succ _, hB.cell 0, hB.cell 1, hB.cell 2, hR, fun bd hb _ => by injection hb with hb; subst hb; exact Nat.le_refl _, Nat.le_refl _, by decide⟩
  | i + 1, hi => simp at hi
theorem hits_below (w : World) : Below w.heap.size w ((w.alloc (.cells #[.int .u8 255] 5)).alloc (.cells #[.int .i64 0, .bool false, .slice (some ⟨w.heap.size, 0, none⟩) 1 1] 36)) :=
  ((Below.refl w.heap.size w).alloc (Nat.le_refl _) _).alloc (by rw [alloc_sz]; exact Nat.le_succ _) _
/-- The arguments' boxes. -/
structure Boxes (w w0 : World) (B P S Sp : Int) (cs : Array Value) : Prop where
  b0 : Below w.heap.size w w0
  sz : w0.heap.size = w.heap.size + 2
  geo : Blk w0 w.heap.size 28 #[.int .i64 B, .int .i64 P, .int .i64 S, .int .i64 Sp]
  act : Blk w0 (w.heap.size + 1) 49 cs
theorem Boxes.mk' (w : World) (B P S Sp : Int) (cs : Array Value) : Boxes w ((w.alloc (.cells #[.int .i64 B, .int .i64 P, .int .i64 S, .int .i64 Sp] 28)).alloc (.cells cs 49)) B P S Sp cs := by
  have hs : (w.alloc (.cells #[.int .i64 B, .int .i64 P, .int .i64 S, .int .i64 Sp] 28)).heap.size = w.heap.size + 1 := alloc_sz _ _
  have hB := Blk.new (w.alloc (.cells #[.int .i64 B, .int .i64 P, .int .i64 S, .int .i64 Sp] 28)) 49 cs
  rw [hs] at hB
  exact ⟨((Below.refl w.heap.size w).alloc (Nat.le_refl _) _).alloc (by rw [hs]; exact Nat.le_succ _) _, by rw [alloc_sz, hs], (Blk.new w _ _).alloc _, hB⟩
end Go.Proofs.Ytlcdabmclcfagaa

/- NandDead: the walk. -/
namespace Go.Proofs.Ytlcdabmclcfagaa
open Go.RowKit

set_option maxRecDepth 100000 in
set_option maxHeartbeats 2000000 in
theorem walkNandDead (w : World) (B P S Sp : Int) (A : Option Addr) (c0 : Nat) (l : List Ac) (hl : ActsP w A l) (hR : l.length * 80 ≤ 140737488351232) (x : Ac) (Ab : Option Addr) (db : Nat) (Ah : Option Addr) (dh : Nat) (hin : ActIn w w.heap.size x Ab Ah) :
    Calls Try.prog 6 #[.agg #[.int .i64 B, .int .i64 P, .int .i64 S, .int .i64 Sp], .slice A l.length c0, .agg (actCells x Ab db Ah dh)] w fun e w' => e = .returned (.bool true) ∧ Below w.heap.size w w' := by
  have HAB := Lib.hid (show ∀ (w' : World) (sz : Nat), Below w.heap.size w w' → sz ≤ 256 → Calls Try.prog 23 #[.agg #[.int .i64 x.do_, .int .i64 x.block, .int .i64 x.page, .int .u8 (x.fill.toNat : Int), .slice Ab x.bytes.length db, .slice Ah x.hits.length dh], .int .i64 (sz : Int)] w' (ActBEnd w' w.heap.size (bytesS x sz)) from fun w' sz hb hsz =>
    act_bytes w' w.heap.size x Ab db Ah dh sz hsz (hin.below hb).rb (hin.below hb).lb (hin.below hb).mb)
  unfold actCells
  generalize bytesS x = bsx at *
  generalize x.bytes.length = nb at *
  generalize x.hits.length = nh at *
  generalize (x.fill.toNat : Int) = fl at *
  generalize x.do_ = dd at *
  generalize x.block = bk at *
  generalize x.page = pg at *
  have hbx := Boxes.mk' w B P S Sp #[.int .i64 dd, .int .i64 bk, .int .i64 pg, .int .u8 fl, .slice Ab nb db, .slice Ah nh dh]
  obtain ⟨w0, hw0⟩ : ∃ w0, w0 = (w.alloc (.cells #[.int .i64 B, .int .i64 P, .int .i64 S, .int .i64 Sp] 28)).alloc (.cells #[.int .i64 dd, .int .i64 bk, .int .i64 pg, .int .u8 fl, .slice Ab nb db, .slice Ah nh dh] 49) := ⟨_, rfl⟩
  rw [← hw0] at hbx
  have HP := Lib.hid (played_any w0 B P S Sp A l.length c0 l rfl (hl.below hbx.b0) (by omega))
  have H0 := Lib.hid hbx
  clear hbx hl hin
  generalize l.length = n at *
  go_enter Try.func6, Try.ntmps6
  go_wp2_with fail
  rw [← hw0]
  clear hw0
  go_wp2_with fail
  refine HP.out.mono ?_
  rintro e w1 ⟨hb1, hno, hyes⟩
  have H1 := Lib.hid (below_then H0.out.b0 H0.out.b0.size hb1)
  have HB1 := Lib.hid hb1
  by_cases hm : mayG (cutB B) (cutP P) S Sp
  · obtain ⟨pb, rfl, hps⟩ := hyes hm
    generalize playS (newS (cutB B).toNat (cutP P).toNat S.toNat Sp.toNat) l = c at *
    obtain ⟨a, r, F, F', hX⟩ := hps
    obtain ⟨La, hLa⟩ := hX.pc
    obtain ⟨Lr, hLr⟩ := hX.rc
    have HPW := Lib.hid (power_pc hLa)
    have q0 := hX.p.cell 0
    simp at q0
    have hS2 := hX.rc.ok.s2
    have HC := Lib.hid (show ∀ w', Below w1.heap.size w1 w' → w'.cell? ⟨w.heap.size + 1, 0, none⟩ = some (.int .i64 dd) ∧ w'.cell? ⟨w.heap.size + 1, 1, none⟩ = some (.int .i64 bk) ∧ w'.cell? ⟨w.heap.size + 1, 2, none⟩ = some (.int .i64 pg) ∧ w'.cell? ⟨w.heap.size + 1, 3, none⟩ = some (.int .u8 fl) ∧ w'.cell? ⟨w.heap.size + 1, 4, none⟩ = some (.slice Ab nb db) ∧ w'.cell? ⟨w.heap.size + 1, 5, none⟩ = some (.slice Ah nh dh) ∧ w'.cell? ⟨pb, 1, none⟩ = some (.pointer (some ⟨r, 0, none⟩)) ∧ w'.cell? ⟨r, 0, none⟩ = some (.int .i64 (c.B : Int)) ∧ w'.cell? ⟨r, 2, none⟩ = some (.int .i64 (c.S : Int)) from fun w' hb => by
      have hB := (H0.out.act.below HB1.out H0.out.act.lt)
      have hB' := hB.below hb hB.lt
      have hp := hX.p.below hb hX.p.lt
      have hc := (hLr.below hb).cells
      exact ⟨hB'.cell 0, hB'.cell 1, hB'.cell 2, hB'.cell 3, hB'.cell 4, hB'.cell 5, hp.cell 1, hc.1, hc.2.2.1⟩)
    have hBB := hX.rc.ok.b2
    clear hyes hno hb1 hLa hLr hX hm
    generalize c.B = cB at *
    generalize c.S = cS at *
    go_wp2_with fail
    refine HPW.out.mono ?_
    rintro e w2 ⟨g, rfl, hpc, hb2⟩
    have H2 := Lib.hid (show CP w1 w2 g (powerS c) from ⟨_, hpc, fun k hk => hk.1, hb2⟩)
    clear hpc hb2
    go_wp2_with fail
    refine (cp_hits H2.out (hits_below w2) _ 1 1 _ (hits_lit255 w2) rfl (by decide) (by decide)).mono ?_
    rintro e w3 ⟨rfl, hcp⟩
    have H3 := Lib.hid hcp
    clear hcp
    rw [show (hitsS (powerS c) [⟨0, false, [255]⟩]).2 = 0 from rfl]
    generalize (hitsS (powerS c) [⟨0, false, [255]⟩]).1 = c1 at *
    go_wp2_with fail
    go_loopg [11, 12] (cB + 1) (fun k s i wr => ∃ (j : Nat) (cut : Bool) (cj : Chp), j + k = cB + 1 ∧ i = .int .i64 j ∧ s = .bool cut ∧ CP w1 wr g cj ∧ (cut = true → cj.dead = true))
    case atStart => exact ⟨0, false, c1, by omega, rfl, rfl, H3.out, fun h => by cases h⟩
    case round =>
      obtain ⟨j, cut, cj, hj, rfl, rfl, hcp, hcut⟩ := hrel
      have HX := Lib.hid (And.intro hj (And.intro hcp hcut))
      obtain ⟨e0, e1, e2, e3, e4, e5, e6, e7, e8⟩ := HC.out wr hcp.bel
      clear hj hcp hcut
      by_cases hlt : j < cB
      · have t1 : decide ((j : Int) < (cB : Int)) = true := decide_eq_true (by omega)
        cases cut with
        | true =>
          have hdd := HX.out.2.2 rfl
          have HDD := Lib.hid hdd
          clear hdd
          go_wp2_with fail
          obtain ⟨F2, ⟨L2, hL2⟩, hF2, hbw2⟩ := HX.out.2.1
          refine (bytes_pc hL2).mono ?_
          rintro e w4 ⟨v4, rfl, ho4, hb4⟩
          obtain ⟨g4, full, rfl, hg4, hrow4, htk, hml⟩ := ho4.row hL2.ok.pos.1
          have hck := CK.of HX.out.2.1 hb4 hg4 hrow4
          have hnn := hL2.ok.pos.2
          have H4 := Lib.hid (And.intro hck (And.intro htk hnn))
          obtain ⟨d0, d1, d2, d3, d4, d5, d6, d7, d8⟩ := HC.out w4 hck.bel
          clear hL2 hF2 hbw2 ho4 hb4 hrow4 hml hck hnn hg4 e0 e1 e2 e3 e4 e5 e6 e7 e8
          clear htk
          generalize hnb : cj.bytes.length = nbs at *
          generalize full.length = fll at *
          have HNB := Lib.hid hnb
          clear hnb
          go_wp2_with fail
          refine (ck_read H4.out.1 bk pg).mono ?_
          rintro e w5 ⟨v5, rfl, -, hck⟩
          rw [readS_dead HDD.out]
          have H5 := Lib.hid hck
          clear hck d0 d1 d2 d3 d4 d5 d6 d7 d8
          go_wp2_with fail
          refine wp_region_G (fun w' : World => w'.cell? ⟨w.heap.size + 1, 0, none⟩ = some (.int .i64 dd) ∧ w'.cell? ⟨w.heap.size + 1, 1, none⟩ = some (.int .i64 bk) ∧ w'.cell? ⟨w.heap.size + 1, 2, none⟩ = some (.int .i64 pg) ∧ w'.cell? ⟨w.heap.size + 1, 3, none⟩ = some (.int .u8 fl) ∧ w'.cell? ⟨w.heap.size + 1, 4, none⟩ = some (.slice Ab nb db) ∧ w'.cell? ⟨w.heap.size + 1, 5, none⟩ = some (.slice Ah nh dh) ∧ w'.cell? ⟨pb, 1, none⟩ = some (.pointer (some ⟨r, 0, none⟩)) ∧ w'.cell? ⟨r, 0, none⟩ = some (.int .i64 (cB : Int)) ∧ w'.cell? ⟨r, 2, none⟩ = some (.int .i64 (cS : Int))) 21 22 #[false, false, false, false, false, false, false, false, false, false, false, false, false, false, false, false, false, false, false, false, false, false] (by kernel_rfl) rfl (by kernel_rfl) ?_
          have hbd := (Below.refl w5.heap.size w5).drew
          have hck6 := H5.out.later hbd
          generalize w5.drew = w6 at *
          have H6 := Lib.hid hck6
          have hS0 : (fun w' : World => w'.cell? ⟨w.heap.size + 1, 0, none⟩ = some (.int .i64 dd) ∧ w'.cell? ⟨w.heap.size + 1, 1, none⟩ = some (.int .i64 bk) ∧ w'.cell? ⟨w.heap.size + 1, 2, none⟩ = some (.int .i64 pg) ∧ w'.cell? ⟨w.heap.size + 1, 3, none⟩ = some (.int .u8 fl) ∧ w'.cell? ⟨w.heap.size + 1, 4, none⟩ = some (.slice Ab nb db) ∧ w'.cell? ⟨w.heap.size + 1, 5, none⟩ = some (.slice Ah nh dh) ∧ w'.cell? ⟨pb, 1, none⟩ = some (.pointer (some ⟨r, 0, none⟩)) ∧ w'.cell? ⟨r, 0, none⟩ = some (.int .i64 (cB : Int)) ∧ w'.cell? ⟨r, 2, none⟩ = some (.int .i64 (cS : Int))) w6 := HC.out w6 hck6.bel
          dsimp only at hS0
          clear hbd hck6
          refine wpAnyG_takeL (i := 0) (v := ?v1) (fuel := 21) (listed' := #[true, false, false, false, false, false, false, false, false, false, false, false, false, false, false, false, false, false, false, false, false, false]) rfl (by kernel_rfl) (fun _ _ _ h => h) (.inl ⟨by rfl, ?hy1⟩) (by assumption) (by kernel_rfl) ?rest1
          case hy1 => (intro w' hSw; (try dsimp only at hSw); go_simp; try with_reducible rfl)
          try simp only [Act.put, List.setIfInBounds_toArray, List.set_cons_zero, List.set_cons_succ]
          refine wpAnyG_takeL (i := 1) (v := ?v2) (fuel := 20) (listed' := #[true, true, false, false, false, false, false, false, false, false, false, false, false, false, false, false, false, false, false, false, false, false]) rfl (by kernel_rfl) (fun _ _ _ h => h) (.inl ⟨by rfl, ?hy2⟩) (by assumption) (by kernel_rfl) ?rest2
          case hy2 => (intro w' hSw; (try dsimp only at hSw); go_simp; try with_reducible rfl)
          try simp only [Act.put, List.setIfInBounds_toArray, List.set_cons_zero, List.set_cons_succ]
          refine wpAnyG_takeL (i := 2) (v := ?v3) (fuel := 19) (listed' := #[true, true, true, false, false, false, false, false, false, false, false, false, false, false, false, false, false, false, false, false, false, false]) rfl (by kernel_rfl) (fun _ _ _ h => h) (.inl ⟨by rfl, ?hy3⟩) (by assumption) (by kernel_rfl) ?rest3
          case hy3 => (intro w' hSw; (try dsimp only at hSw); go_simp; try with_reducible rfl)
          try simp only [Act.put, List.setIfInBounds_toArray, List.set_cons_zero, List.set_cons_succ]
          refine wpAnyG_takeL (i := 3) (v := ?v4) (fuel := 18) (listed' := #[true, true, true, true, false, false, false, false, false, false, false, false, false, false, false, false, false, false, false, false, false, false]) rfl (by kernel_rfl) (fun _ _ _ h => h) (.inl ⟨by rfl, ?hy4⟩) (by assumption) (by kernel_rfl) ?rest4
          case hy4 => (intro w' hSw; (try dsimp only at hSw); go_simp; try with_reducible rfl)
          try simp only [Act.put, List.setIfInBounds_toArray, List.set_cons_zero, List.set_cons_succ]
          refine wpAnyG_takeL (i := 4) (v := ?v5) (fuel := 17) (listed' := #[true, true, true, true, true, false, false, false, false, false, false, false, false, false, false, false, false, false, false, false, false, false]) rfl (by kernel_rfl) (fun _ _ _ h => h) (.inl ⟨by rfl, ?hy5⟩) (by assumption) (by kernel_rfl) ?rest5
          case hy5 => (intro w' hSw; (try dsimp only at hSw); go_simp; try with_reducible rfl)
          try simp only [Act.put, List.setIfInBounds_toArray, List.set_cons_zero, List.set_cons_succ]
          refine wpAnyG_takeL (i := 5) (v := ?v6) (fuel := 16) (listed' := #[true, true, true, true, true, true, false, false, false, false, false, false, false, false, false, false, false, false, false, false, false, false]) rfl (by kernel_rfl) (fun _ _ _ h => h) (.inl ⟨by rfl, ?hy6⟩) (by assumption) (by kernel_rfl) ?rest6
          case hy6 => (intro w' hSw; (try dsimp only at hSw); go_simp; try with_reducible rfl)
          try simp only [Act.put, List.setIfInBounds_toArray, List.set_cons_zero, List.set_cons_succ]
          refine wpAnyG_takeL (i := 6) (v := ?v7) (fuel := 15) (listed' := #[true, true, true, true, true, true, true, false, false, false, false, false, false, false, false, false, false, false, false, false, false, false]) rfl (by kernel_rfl) (fun _ _ _ h => h) (.inl ⟨by rfl, ?hy7⟩) (by assumption) (by kernel_rfl) ?rest7
          case hy7 => (intro w' hSw; (try dsimp only at hSw); go_simp; try with_reducible rfl)
          try simp only [Act.put, List.setIfInBounds_toArray, List.set_cons_zero, List.set_cons_succ]
          refine wpAnyG_takeL (i := 7) (v := ?v8) (fuel := 14) (listed' := #[true, true, true, true, true, true, true, true, false, false, false, false, false, false, false, false, false, false, false, false, false, false]) rfl (by kernel_rfl) (fun _ _ _ h => h) (.inl ⟨by rfl, ?hy8⟩) (by assumption) (by kernel_rfl) ?rest8
          case hy8 => (intro w' hSw; (try dsimp only at hSw); go_simp; try with_reducible rfl)
          try simp only [Act.put, List.setIfInBounds_toArray, List.set_cons_zero, List.set_cons_succ]
          refine wpAnyG_takeL (i := 8) (v := ?v9) (fuel := 13) (listed' := #[true, true, true, true, true, true, true, true, true, false, false, false, false, false, false, false, false, false, false, false, false, false]) rfl (by kernel_rfl) (fun _ _ _ h => h) (.inl ⟨by rfl, ?hy9⟩) (by assumption) (by kernel_rfl) ?rest9
          case hy9 => (intro w' hSw; (try dsimp only at hSw); go_simp; try with_reducible rfl)
          try simp only [Act.put, List.setIfInBounds_toArray, List.set_cons_zero, List.set_cons_succ]
          refine wpAnyG_takeL (i := 9) (v := ?v10) (fuel := 12) (listed' := #[true, true, true, true, true, true, true, true, true, true, false, false, false, false, false, false, false, false, false, false, false, false]) rfl (by kernel_rfl) (fun _ _ _ h => h) (.inl ⟨by rfl, ?hy10⟩) (by assumption) (by kernel_rfl) ?rest10
          case hy10 => (intro w' hSw; (try dsimp only at hSw); go_simp; try with_reducible rfl)
          try simp only [Act.put, List.setIfInBounds_toArray, List.set_cons_zero, List.set_cons_succ]
          refine wpAnyG_takeL (i := 10) (v := ?v11) (fuel := 11) (listed' := #[true, true, true, true, true, true, true, true, true, true, true, false, false, false, false, false, false, false, false, false, false, false]) rfl (by kernel_rfl) (fun _ _ _ h => h) (.inl ⟨by rfl, ?hy11⟩) (by assumption) (by kernel_rfl) ?rest11
          case hy11 => (intro w' hSw; (try dsimp only at hSw); go_simp; try with_reducible rfl)
          try simp only [Act.put, List.setIfInBounds_toArray, List.set_cons_zero, List.set_cons_succ]
          refine wpAnyG_takeL (i := 11) (v := ?v12) (fuel := 10) (listed' := #[true, true, true, true, true, true, true, true, true, true, true, true, false, false, false, false, false, false, false, false, false, false]) rfl (by kernel_rfl) (fun _ _ _ h => h) (.inl ⟨by rfl, ?hy12⟩) (by assumption) (by kernel_rfl) ?rest12
          case hy12 => (intro w' hSw; (try dsimp only at hSw); go_simp; try with_reducible rfl)
          try simp only [Act.put, List.setIfInBounds_toArray, List.set_cons_zero, List.set_cons_succ]
          refine wpAnyG_takeL (i := 12) (v := ?v13) (fuel := 9) (listed' := #[true, true, true, true, true, true, true, true, true, true, true, true, true, false, false, false, false, false, false, false, false, false]) rfl (by kernel_rfl) (fun _ _ _ h => h) (.inl ⟨by rfl, ?hy13⟩) (by assumption) (by kernel_rfl) ?rest13
          case hy13 => (intro w' hSw; (try dsimp only at hSw); go_simp; try with_reducible rfl)
          try simp only [Act.put, List.setIfInBounds_toArray, List.set_cons_zero, List.set_cons_succ]
          refine wpAnyG_takeL (i := 13) (v := ?v14) (fuel := 8) (listed' := #[true, true, true, true, true, true, true, true, true, true, true, true, true, true, false, false, false, false, false, false, false, false]) rfl (by kernel_rfl) (fun _ _ _ h => h) (.inl ⟨by rfl, ?hy14⟩) (by assumption) (by kernel_rfl) ?rest14
          case hy14 => (intro w' hSw; (try dsimp only at hSw); go_simp; try with_reducible rfl)
          try simp only [Act.put, List.setIfInBounds_toArray, List.set_cons_zero, List.set_cons_succ]
          refine wpAnyG_takeL (i := 16) (v := ?v15) (fuel := 7) (listed' := #[true, true, true, true, true, true, true, true, true, true, true, true, true, true, false, false, true, false, false, false, false, false]) rfl (by kernel_rfl) (fun _ _ _ h => h) (.inl ⟨by rfl, ?hy15⟩) (by assumption) (by kernel_rfl) ?rest15
          case hy15 => (intro w' hSw; (try dsimp only at hSw); go_simp; try with_reducible rfl)
          try simp only [Act.put, List.setIfInBounds_toArray, List.set_cons_zero, List.set_cons_succ]
          refine wpAnyG_takeL (i := 17) (v := ?v16) (fuel := 6) (listed' := #[true, true, true, true, true, true, true, true, true, true, true, true, true, true, false, false, true, true, false, false, false, false]) rfl (by kernel_rfl) (fun _ _ _ h => h) (.inl ⟨by rfl, ?hy16⟩) (by assumption) (by kernel_rfl) ?rest16
          case hy16 => (intro w' hSw; (try dsimp only at hSw); go_simp; try with_reducible rfl)
          try simp only [Act.put, List.setIfInBounds_toArray, List.set_cons_zero, List.set_cons_succ]
          refine wpAnyG_takeL (i := 18) (v := ?v17) (fuel := 5) (listed' := #[true, true, true, true, true, true, true, true, true, true, true, true, true, true, false, false, true, true, true, false, false, false]) rfl (by kernel_rfl) (fun _ _ _ h => h) (.inl ⟨by rfl, ?hy17⟩) (by assumption) (by kernel_rfl) ?rest17
          case hy17 => (intro w' hSw; (try dsimp only at hSw); go_simp; try with_reducible rfl)
          try simp only [Act.put, List.setIfInBounds_toArray, List.set_cons_zero, List.set_cons_succ]
          refine wpAnyG_oneL (i := 14) (fuel := 4) (listed' := #[true, true, true, true, true, true, true, true, true, true, true, true, true, true, true, false, true, true, true, false, false, false]) rfl (by kernel_rfl) (by kernel_rfl) (by rfl) (fun K hK0 => ?_)
          have hK := Lib.hid hK0
          clear hK0
          go_simp
          refine (HAB.out w6 cS (below_then H1.out H1.out.size H6.out.bel) hS2).mono ?_
          rintro e w7 ⟨A7, d7, rfl, hrv7, hab7, hb7⟩
          have hck7 := H6.out.later hb7
          have H7 := Lib.hid (And.intro hck7 (And.intro hrv7 (And.intro hab7 hb7)))
          have hS7 : (fun w' : World => w'.cell? ⟨w.heap.size + 1, 0, none⟩ = some (.int .i64 dd) ∧ w'.cell? ⟨w.heap.size + 1, 1, none⟩ = some (.int .i64 bk) ∧ w'.cell? ⟨w.heap.size + 1, 2, none⟩ = some (.int .i64 pg) ∧ w'.cell? ⟨w.heap.size + 1, 3, none⟩ = some (.int .u8 fl) ∧ w'.cell? ⟨w.heap.size + 1, 4, none⟩ = some (.slice Ab nb db) ∧ w'.cell? ⟨w.heap.size + 1, 5, none⟩ = some (.slice Ah nh dh) ∧ w'.cell? ⟨pb, 1, none⟩ = some (.pointer (some ⟨r, 0, none⟩)) ∧ w'.cell? ⟨r, 0, none⟩ = some (.int .i64 (cB : Int)) ∧ w'.cell? ⟨r, 2, none⟩ = some (.int .i64 (cS : Int))) w7 := HC.out w7 hck7.bel
          clear hck7 hrv7 hab7 hb7
          refine hK.out _ _ (.inl (hS7)) ?_
          clear hK K
          try simp only [Act.put, List.setIfInBounds_toArray, List.set_cons_zero, List.set_cons_succ]
          clear hS0
          have hS0 := hS7
          dsimp only at hS0
          clear hS7
          generalize hws : bsx cS = ws at *
          refine wpAnyG_oneL (i := 15) (fuel := 3) (listed' := #[true, true, true, true, true, true, true, true, true, true, true, true, true, true, true, true, true, true, true, false, false, false]) rfl (by kernel_rfl) (by kernel_rfl) (by rfl) (fun K hK0 => ?_)
          have hK := Lib.hid hK0
          clear hK0
          go_simp
          refine (ck_prog2 H6.out H7.out.2.2.2 bk pg A7 ws.length d7 ws rfl H7.out.2.1 (fun ad hA h0 => (H7.out.2.2.1 ad hA h0).imp (fun h => Nat.lt_of_lt_of_le h H1.out.size) (fun h => h))).mono ?_
          rintro e w8 ⟨rfl, hck8⟩
          rw [programS_dead HDD.out] at hck8 ⊢
          have H8 := Lib.hid hck8
          have hS8 : (fun w' : World => w'.cell? ⟨w.heap.size + 1, 0, none⟩ = some (.int .i64 dd) ∧ w'.cell? ⟨w.heap.size + 1, 1, none⟩ = some (.int .i64 bk) ∧ w'.cell? ⟨w.heap.size + 1, 2, none⟩ = some (.int .i64 pg) ∧ w'.cell? ⟨w.heap.size + 1, 3, none⟩ = some (.int .u8 fl) ∧ w'.cell? ⟨w.heap.size + 1, 4, none⟩ = some (.slice Ab nb db) ∧ w'.cell? ⟨w.heap.size + 1, 5, none⟩ = some (.slice Ah nh dh) ∧ w'.cell? ⟨pb, 1, none⟩ = some (.pointer (some ⟨r, 0, none⟩)) ∧ w'.cell? ⟨r, 0, none⟩ = some (.int .i64 (cB : Int)) ∧ w'.cell? ⟨r, 2, none⟩ = some (.int .i64 (cS : Int))) w8 := HC.out w8 hck8.bel
          clear hck8
          refine hK.out _ _ (.inl (hS8)) ?_
          clear hK K
          try simp only [Act.put, List.setIfInBounds_toArray, List.set_cons_zero, List.set_cons_succ]
          clear hS0
          have hS0 := hS8
          dsimp only at hS0
          clear hS8
          refine wpAnyG_oneL (i := 19) (fuel := 2) (listed' := #[true, true, true, true, true, true, true, true, true, true, true, true, true, true, true, true, true, true, true, true, false, false]) rfl (by kernel_rfl) (by kernel_rfl) (by rfl) (fun K hK0 => ?_)
          have hK := Lib.hid hK0
          clear hK0
          go_simp
          refine (ck_erase H8.out bk).mono ?_
          rintro e w9 ⟨rfl, hck9⟩
          rw [eraseS_dead HDD.out] at hck9 ⊢
          have H9 := Lib.hid hck9
          have hS9 : (fun w' : World => w'.cell? ⟨w.heap.size + 1, 0, none⟩ = some (.int .i64 dd) ∧ w'.cell? ⟨w.heap.size + 1, 1, none⟩ = some (.int .i64 bk) ∧ w'.cell? ⟨w.heap.size + 1, 2, none⟩ = some (.int .i64 pg) ∧ w'.cell? ⟨w.heap.size + 1, 3, none⟩ = some (.int .u8 fl) ∧ w'.cell? ⟨w.heap.size + 1, 4, none⟩ = some (.slice Ab nb db) ∧ w'.cell? ⟨w.heap.size + 1, 5, none⟩ = some (.slice Ah nh dh) ∧ w'.cell? ⟨pb, 1, none⟩ = some (.pointer (some ⟨r, 0, none⟩)) ∧ w'.cell? ⟨r, 0, none⟩ = some (.int .i64 (cB : Int)) ∧ w'.cell? ⟨r, 2, none⟩ = some (.int .i64 (cS : Int))) w9 := HC.out w9 hck9.bel
          clear hck9
          refine hK.out _ _ (.inl (hS9)) ?_
          clear hK K
          try simp only [Act.put, List.setIfInBounds_toArray, List.set_cons_zero, List.set_cons_succ]
          clear hS0
          have hS0 := hS9
          dsimp only at hS0
          clear hS9
          refine wpAnyG_takeL (i := 20) (v := ?v18) (fuel := 1) (listed' := #[true, true, true, true, true, true, true, true, true, true, true, true, true, true, true, true, true, true, true, true, true, false]) rfl (by kernel_rfl) (fun _ _ _ h => h) (.inl ⟨by rfl, ?hy18⟩) (by assumption) (by kernel_rfl) ?rest18
          case hy18 => (intro w' hSw; (try dsimp only at hSw); go_simp; try with_reducible rfl)
          try simp only [Act.put, List.setIfInBounds_toArray, List.set_cons_zero, List.set_cons_succ]
          refine wpAnyG_oneL (i := 21) (fuel := 0) (listed' := #[true, true, true, true, true, true, true, true, true, true, true, true, true, true, true, true, true, true, true, true, true, true]) rfl (by kernel_rfl) (by kernel_rfl) (by rfl) (fun K hK0 => ?_)
          have hK := Lib.hid hK0
          clear hK0
          go_simp
          refine hK.out _ _ (.inr (by decide)) ?_
          clear hK K
          refine wpAnyG_done (by kernel_rfl) ?_ _
          clear hS0
          go_wp2_with fail
          refine (ck_power H9.out).mono ?_
          rintro e w10 ⟨g2, rfl, hn10, hck10⟩
          have H10 := Lib.hid (And.intro hn10 hck10)
          clear hn10 hck10
          go_wp2_with fail
          refine (ck_bytes H10.out.2).mono ?_
          rintro e w11 ⟨v11, rfl, ho11, hb11⟩
          have H11 := Lib.hid (And.intro ho11 (And.intro (H10.out.1.later hb11) (H10.out.2.later hb11)))
          clear ho11 hb11
          go_wp2_with fail
          refine (same_at w11 _ v11 cj.bytes (some ⟨g4, 0, none⟩) fll nbs cj.bytes HNB.out H11.out.1 (H11.out.2.2.row.rvTake (by rw [HNB.out]; exact H4.out.2.1)) (by have := H4.out.2.2; unfold maxLen; omega)).mono ?_
          rintro e w12 ⟨rfl, hd12⟩
          rw [decide_eq_true rfl]
          have H12 := Lib.hid (And.intro (H11.out.2.1.later (hd12.below _)) (H11.out.2.2.later (hd12.below _)))
          clear hd12
          go_wp2_with fail
          refine (ck_bytes H12.out.1).mono ?_
          rintro e w13 ⟨v13, rfl, ho13, hb13⟩
          have H13 := Lib.hid (And.intro ho13 (And.intro (H12.out.1.later hb13) (H12.out.2.later hb13)))
          clear ho13 hb13
          go_wp2_with fail
          refine (same_at w13 _ v13 cj.bytes (some ⟨g4, 0, none⟩) fll nbs cj.bytes HNB.out H13.out.1 (H13.out.2.2.row.rvTake (by rw [HNB.out]; exact H4.out.2.1)) (by have := H4.out.2.2; unfold maxLen; omega)).mono ?_
          rintro e w14 ⟨rfl, hd14⟩
          rw [decide_eq_true rfl]
          have H14 := Lib.hid (H13.out.2.1.later (hd14.below _))
          clear hd14
          go_wp2_with fail
          refine (ck_deeds H14.out).mono ?_
          rintro e w15 ⟨rfl, hw15⟩
          obtain rfl := hw15.symm
          clear hw15
          rw [show (powerS cj).deeds = 0 from rfl]
          go_wp2_with fail
          refine (works_any w14).mono ?_
          rintro e w16 ⟨rfl, hb16⟩
          have H16 := Lib.hid (below_then (below_then H1.out H1.out.size H14.out.bel) (below_then H1.out H1.out.size H14.out.bel).size hb16)
          clear hb16
          go_wp2_with fail
          go_ret
          exact ⟨rfl, H16.out⟩
        | false =>
          have hjw : IntKind.i64.wrap ((j : Int) + 1) = (j : Int) + 1 := IntWalk.i64_in _ (by omega)
          go_wp2_with fail
          refine (cp_erase HX.out.2.1 (j : Int)).mono ?_
          rintro e w4 ⟨rfl, hcp⟩
          have H4 := Lib.hid (And.intro hcp (eraseS_ten cj (j : Int)))
          clear hcp e0 e1 e2 e3 e4 e5 e6 e7 e8
          generalize eraseS cj (j : Int) = R at *
          go_wp2_with fail
          go_roundg (cB + 1 - (j + 1))
          case measure => have := HX.out.1; omega
          case rel => exact ⟨j + 1, _, R.1, by have := HX.out.1; omega, by go_num, rfl, H4.out.1, fun h => H4.out.2 (by have h2 : ((R.2 : Int) == 10) = true := h; simp at h2; omega)⟩
      · have t1 : decide ((j : Int) < (cB : Int)) = false := decide_eq_false (by omega)
        cases cut with
        | true =>
          have hdd := HX.out.2.2 rfl
          have HDD := Lib.hid hdd
          clear hdd
          go_wp2_with fail
          obtain ⟨F2, ⟨L2, hL2⟩, hF2, hbw2⟩ := HX.out.2.1
          refine (bytes_pc hL2).mono ?_
          rintro e w4 ⟨v4, rfl, ho4, hb4⟩
          obtain ⟨g4, full, rfl, hg4, hrow4, htk, hml⟩ := ho4.row hL2.ok.pos.1
          have hck := CK.of HX.out.2.1 hb4 hg4 hrow4
          have hnn := hL2.ok.pos.2
          have H4 := Lib.hid (And.intro hck (And.intro htk hnn))
          obtain ⟨d0, d1, d2, d3, d4, d5, d6, d7, d8⟩ := HC.out w4 hck.bel
          clear hL2 hF2 hbw2 ho4 hb4 hrow4 hml hck hnn hg4 e0 e1 e2 e3 e4 e5 e6 e7 e8
          clear htk
          generalize hnb : cj.bytes.length = nbs at *
          generalize full.length = fll at *
          have HNB := Lib.hid hnb
          clear hnb
          go_wp2_with fail
          refine (ck_read H4.out.1 bk pg).mono ?_
          rintro e w5 ⟨v5, rfl, -, hck⟩
          rw [readS_dead HDD.out]
          have H5 := Lib.hid hck
          clear hck d0 d1 d2 d3 d4 d5 d6 d7 d8
          go_wp2_with fail
          refine wp_region_G (fun w' : World => w'.cell? ⟨w.heap.size + 1, 0, none⟩ = some (.int .i64 dd) ∧ w'.cell? ⟨w.heap.size + 1, 1, none⟩ = some (.int .i64 bk) ∧ w'.cell? ⟨w.heap.size + 1, 2, none⟩ = some (.int .i64 pg) ∧ w'.cell? ⟨w.heap.size + 1, 3, none⟩ = some (.int .u8 fl) ∧ w'.cell? ⟨w.heap.size + 1, 4, none⟩ = some (.slice Ab nb db) ∧ w'.cell? ⟨w.heap.size + 1, 5, none⟩ = some (.slice Ah nh dh) ∧ w'.cell? ⟨pb, 1, none⟩ = some (.pointer (some ⟨r, 0, none⟩)) ∧ w'.cell? ⟨r, 0, none⟩ = some (.int .i64 (cB : Int)) ∧ w'.cell? ⟨r, 2, none⟩ = some (.int .i64 (cS : Int))) 21 22 #[false, false, false, false, false, false, false, false, false, false, false, false, false, false, false, false, false, false, false, false, false, false] (by kernel_rfl) rfl (by kernel_rfl) ?_
          have hbd := (Below.refl w5.heap.size w5).drew
          have hck6 := H5.out.later hbd
          generalize w5.drew = w6 at *
          have H6 := Lib.hid hck6
          have hS0 : (fun w' : World => w'.cell? ⟨w.heap.size + 1, 0, none⟩ = some (.int .i64 dd) ∧ w'.cell? ⟨w.heap.size + 1, 1, none⟩ = some (.int .i64 bk) ∧ w'.cell? ⟨w.heap.size + 1, 2, none⟩ = some (.int .i64 pg) ∧ w'.cell? ⟨w.heap.size + 1, 3, none⟩ = some (.int .u8 fl) ∧ w'.cell? ⟨w.heap.size + 1, 4, none⟩ = some (.slice Ab nb db) ∧ w'.cell? ⟨w.heap.size + 1, 5, none⟩ = some (.slice Ah nh dh) ∧ w'.cell? ⟨pb, 1, none⟩ = some (.pointer (some ⟨r, 0, none⟩)) ∧ w'.cell? ⟨r, 0, none⟩ = some (.int .i64 (cB : Int)) ∧ w'.cell? ⟨r, 2, none⟩ = some (.int .i64 (cS : Int))) w6 := HC.out w6 hck6.bel
          dsimp only at hS0
          clear hbd hck6
          refine wpAnyG_takeL (i := 0) (v := ?v19) (fuel := 21) (listed' := #[true, false, false, false, false, false, false, false, false, false, false, false, false, false, false, false, false, false, false, false, false, false]) rfl (by kernel_rfl) (fun _ _ _ h => h) (.inl ⟨by rfl, ?hy19⟩) (by assumption) (by kernel_rfl) ?rest19
          case hy19 => (intro w' hSw; (try dsimp only at hSw); go_simp; try with_reducible rfl)
          try simp only [Act.put, List.setIfInBounds_toArray, List.set_cons_zero, List.set_cons_succ]
          refine wpAnyG_takeL (i := 1) (v := ?v20) (fuel := 20) (listed' := #[true, true, false, false, false, false, false, false, false, false, false, false, false, false, false, false, false, false, false, false, false, false]) rfl (by kernel_rfl) (fun _ _ _ h => h) (.inl ⟨by rfl, ?hy20⟩) (by assumption) (by kernel_rfl) ?rest20
          case hy20 => (intro w' hSw; (try dsimp only at hSw); go_simp; try with_reducible rfl)
          try simp only [Act.put, List.setIfInBounds_toArray, List.set_cons_zero, List.set_cons_succ]
          refine wpAnyG_takeL (i := 2) (v := ?v21) (fuel := 19) (listed' := #[true, true, true, false, false, false, false, false, false, false, false, false, false, false, false, false, false, false, false, false, false, false]) rfl (by kernel_rfl) (fun _ _ _ h => h) (.inl ⟨by rfl, ?hy21⟩) (by assumption) (by kernel_rfl) ?rest21
          case hy21 => (intro w' hSw; (try dsimp only at hSw); go_simp; try with_reducible rfl)
          try simp only [Act.put, List.setIfInBounds_toArray, List.set_cons_zero, List.set_cons_succ]
          refine wpAnyG_takeL (i := 3) (v := ?v22) (fuel := 18) (listed' := #[true, true, true, true, false, false, false, false, false, false, false, false, false, false, false, false, false, false, false, false, false, false]) rfl (by kernel_rfl) (fun _ _ _ h => h) (.inl ⟨by rfl, ?hy22⟩) (by assumption) (by kernel_rfl) ?rest22
          case hy22 => (intro w' hSw; (try dsimp only at hSw); go_simp; try with_reducible rfl)
          try simp only [Act.put, List.setIfInBounds_toArray, List.set_cons_zero, List.set_cons_succ]
          refine wpAnyG_takeL (i := 4) (v := ?v23) (fuel := 17) (listed' := #[true, true, true, true, true, false, false, false, false, false, false, false, false, false, false, false, false, false, false, false, false, false]) rfl (by kernel_rfl) (fun _ _ _ h => h) (.inl ⟨by rfl, ?hy23⟩) (by assumption) (by kernel_rfl) ?rest23
          case hy23 => (intro w' hSw; (try dsimp only at hSw); go_simp; try with_reducible rfl)
          try simp only [Act.put, List.setIfInBounds_toArray, List.set_cons_zero, List.set_cons_succ]
          refine wpAnyG_takeL (i := 5) (v := ?v24) (fuel := 16) (listed' := #[true, true, true, true, true, true, false, false, false, false, false, false, false, false, false, false, false, false, false, false, false, false]) rfl (by kernel_rfl) (fun _ _ _ h => h) (.inl ⟨by rfl, ?hy24⟩) (by assumption) (by kernel_rfl) ?rest24
          case hy24 => (intro w' hSw; (try dsimp only at hSw); go_simp; try with_reducible rfl)
          try simp only [Act.put, List.setIfInBounds_toArray, List.set_cons_zero, List.set_cons_succ]
          refine wpAnyG_takeL (i := 6) (v := ?v25) (fuel := 15) (listed' := #[true, true, true, true, true, true, true, false, false, false, false, false, false, false, false, false, false, false, false, false, false, false]) rfl (by kernel_rfl) (fun _ _ _ h => h) (.inl ⟨by rfl, ?hy25⟩) (by assumption) (by kernel_rfl) ?rest25
          case hy25 => (intro w' hSw; (try dsimp only at hSw); go_simp; try with_reducible rfl)
          try simp only [Act.put, List.setIfInBounds_toArray, List.set_cons_zero, List.set_cons_succ]
          refine wpAnyG_takeL (i := 7) (v := ?v26) (fuel := 14) (listed' := #[true, true, true, true, true, true, true, true, false, false, false, false, false, false, false, false, false, false, false, false, false, false]) rfl (by kernel_rfl) (fun _ _ _ h => h) (.inl ⟨by rfl, ?hy26⟩) (by assumption) (by kernel_rfl) ?rest26
          case hy26 => (intro w' hSw; (try dsimp only at hSw); go_simp; try with_reducible rfl)
          try simp only [Act.put, List.setIfInBounds_toArray, List.set_cons_zero, List.set_cons_succ]
          refine wpAnyG_takeL (i := 8) (v := ?v27) (fuel := 13) (listed' := #[true, true, true, true, true, true, true, true, true, false, false, false, false, false, false, false, false, false, false, false, false, false]) rfl (by kernel_rfl) (fun _ _ _ h => h) (.inl ⟨by rfl, ?hy27⟩) (by assumption) (by kernel_rfl) ?rest27
          case hy27 => (intro w' hSw; (try dsimp only at hSw); go_simp; try with_reducible rfl)
          try simp only [Act.put, List.setIfInBounds_toArray, List.set_cons_zero, List.set_cons_succ]
          refine wpAnyG_takeL (i := 9) (v := ?v28) (fuel := 12) (listed' := #[true, true, true, true, true, true, true, true, true, true, false, false, false, false, false, false, false, false, false, false, false, false]) rfl (by kernel_rfl) (fun _ _ _ h => h) (.inl ⟨by rfl, ?hy28⟩) (by assumption) (by kernel_rfl) ?rest28
          case hy28 => (intro w' hSw; (try dsimp only at hSw); go_simp; try with_reducible rfl)
          try simp only [Act.put, List.setIfInBounds_toArray, List.set_cons_zero, List.set_cons_succ]
          refine wpAnyG_takeL (i := 10) (v := ?v29) (fuel := 11) (listed' := #[true, true, true, true, true, true, true, true, true, true, true, false, false, false, false, false, false, false, false, false, false, false]) rfl (by kernel_rfl) (fun _ _ _ h => h) (.inl ⟨by rfl, ?hy29⟩) (by assumption) (by kernel_rfl) ?rest29
          case hy29 => (intro w' hSw; (try dsimp only at hSw); go_simp; try with_reducible rfl)
          try simp only [Act.put, List.setIfInBounds_toArray, List.set_cons_zero, List.set_cons_succ]
          refine wpAnyG_takeL (i := 11) (v := ?v30) (fuel := 10) (listed' := #[true, true, true, true, true, true, true, true, true, true, true, true, false, false, false, false, false, false, false, false, false, false]) rfl (by kernel_rfl) (fun _ _ _ h => h) (.inl ⟨by rfl, ?hy30⟩) (by assumption) (by kernel_rfl) ?rest30
          case hy30 => (intro w' hSw; (try dsimp only at hSw); go_simp; try with_reducible rfl)
          try simp only [Act.put, List.setIfInBounds_toArray, List.set_cons_zero, List.set_cons_succ]
          refine wpAnyG_takeL (i := 12) (v := ?v31) (fuel := 9) (listed' := #[true, true, true, true, true, true, true, true, true, true, true, true, true, false, false, false, false, false, false, false, false, false]) rfl (by kernel_rfl) (fun _ _ _ h => h) (.inl ⟨by rfl, ?hy31⟩) (by assumption) (by kernel_rfl) ?rest31
          case hy31 => (intro w' hSw; (try dsimp only at hSw); go_simp; try with_reducible rfl)
          try simp only [Act.put, List.setIfInBounds_toArray, List.set_cons_zero, List.set_cons_succ]
          refine wpAnyG_takeL (i := 13) (v := ?v32) (fuel := 8) (listed' := #[true, true, true, true, true, true, true, true, true, true, true, true, true, true, false, false, false, false, false, false, false, false]) rfl (by kernel_rfl) (fun _ _ _ h => h) (.inl ⟨by rfl, ?hy32⟩) (by assumption) (by kernel_rfl) ?rest32
          case hy32 => (intro w' hSw; (try dsimp only at hSw); go_simp; try with_reducible rfl)
          try simp only [Act.put, List.setIfInBounds_toArray, List.set_cons_zero, List.set_cons_succ]
          refine wpAnyG_takeL (i := 16) (v := ?v33) (fuel := 7) (listed' := #[true, true, true, true, true, true, true, true, true, true, true, true, true, true, false, false, true, false, false, false, false, false]) rfl (by kernel_rfl) (fun _ _ _ h => h) (.inl ⟨by rfl, ?hy33⟩) (by assumption) (by kernel_rfl) ?rest33
          case hy33 => (intro w' hSw; (try dsimp only at hSw); go_simp; try with_reducible rfl)
          try simp only [Act.put, List.setIfInBounds_toArray, List.set_cons_zero, List.set_cons_succ]
          refine wpAnyG_takeL (i := 17) (v := ?v34) (fuel := 6) (listed' := #[true, true, true, true, true, true, true, true, true, true, true, true, true, true, false, false, true, true, false, false, false, false]) rfl (by kernel_rfl) (fun _ _ _ h => h) (.inl ⟨by rfl, ?hy34⟩) (by assumption) (by kernel_rfl) ?rest34
          case hy34 => (intro w' hSw; (try dsimp only at hSw); go_simp; try with_reducible rfl)
          try simp only [Act.put, List.setIfInBounds_toArray, List.set_cons_zero, List.set_cons_succ]
          refine wpAnyG_takeL (i := 18) (v := ?v35) (fuel := 5) (listed' := #[true, true, true, true, true, true, true, true, true, true, true, true, true, true, false, false, true, true, true, false, false, false]) rfl (by kernel_rfl) (fun _ _ _ h => h) (.inl ⟨by rfl, ?hy35⟩) (by assumption) (by kernel_rfl) ?rest35
          case hy35 => (intro w' hSw; (try dsimp only at hSw); go_simp; try with_reducible rfl)
          try simp only [Act.put, List.setIfInBounds_toArray, List.set_cons_zero, List.set_cons_succ]
          refine wpAnyG_oneL (i := 14) (fuel := 4) (listed' := #[true, true, true, true, true, true, true, true, true, true, true, true, true, true, true, false, true, true, true, false, false, false]) rfl (by kernel_rfl) (by kernel_rfl) (by rfl) (fun K hK0 => ?_)
          have hK := Lib.hid hK0
          clear hK0
          go_simp
          refine (HAB.out w6 cS (below_then H1.out H1.out.size H6.out.bel) hS2).mono ?_
          rintro e w7 ⟨A7, d7, rfl, hrv7, hab7, hb7⟩
          have hck7 := H6.out.later hb7
          have H7 := Lib.hid (And.intro hck7 (And.intro hrv7 (And.intro hab7 hb7)))
          have hS7 : (fun w' : World => w'.cell? ⟨w.heap.size + 1, 0, none⟩ = some (.int .i64 dd) ∧ w'.cell? ⟨w.heap.size + 1, 1, none⟩ = some (.int .i64 bk) ∧ w'.cell? ⟨w.heap.size + 1, 2, none⟩ = some (.int .i64 pg) ∧ w'.cell? ⟨w.heap.size + 1, 3, none⟩ = some (.int .u8 fl) ∧ w'.cell? ⟨w.heap.size + 1, 4, none⟩ = some (.slice Ab nb db) ∧ w'.cell? ⟨w.heap.size + 1, 5, none⟩ = some (.slice Ah nh dh) ∧ w'.cell? ⟨pb, 1, none⟩ = some (.pointer (some ⟨r, 0, none⟩)) ∧ w'.cell? ⟨r, 0, none⟩ = some (.int .i64 (cB : Int)) ∧ w'.cell? ⟨r, 2, none⟩ = some (.int .i64 (cS : Int))) w7 := HC.out w7 hck7.bel
          clear hck7 hrv7 hab7 hb7
          refine hK.out _ _ (.inl (hS7)) ?_
          clear hK K
          try simp only [Act.put, List.setIfInBounds_toArray, List.set_cons_zero, List.set_cons_succ]
          clear hS0
          have hS0 := hS7
          dsimp only at hS0
          clear hS7
          generalize hws : bsx cS = ws at *
          refine wpAnyG_oneL (i := 15) (fuel := 3) (listed' := #[true, true, true, true, true, true, true, true, true, true, true, true, true, true, true, true, true, true, true, false, false, false]) rfl (by kernel_rfl) (by kernel_rfl) (by rfl) (fun K hK0 => ?_)
          have hK := Lib.hid hK0
          clear hK0
          go_simp
          refine (ck_prog2 H6.out H7.out.2.2.2 bk pg A7 ws.length d7 ws rfl H7.out.2.1 (fun ad hA h0 => (H7.out.2.2.1 ad hA h0).imp (fun h => Nat.lt_of_lt_of_le h H1.out.size) (fun h => h))).mono ?_
          rintro e w8 ⟨rfl, hck8⟩
          rw [programS_dead HDD.out] at hck8 ⊢
          have H8 := Lib.hid hck8
          have hS8 : (fun w' : World => w'.cell? ⟨w.heap.size + 1, 0, none⟩ = some (.int .i64 dd) ∧ w'.cell? ⟨w.heap.size + 1, 1, none⟩ = some (.int .i64 bk) ∧ w'.cell? ⟨w.heap.size + 1, 2, none⟩ = some (.int .i64 pg) ∧ w'.cell? ⟨w.heap.size + 1, 3, none⟩ = some (.int .u8 fl) ∧ w'.cell? ⟨w.heap.size + 1, 4, none⟩ = some (.slice Ab nb db) ∧ w'.cell? ⟨w.heap.size + 1, 5, none⟩ = some (.slice Ah nh dh) ∧ w'.cell? ⟨pb, 1, none⟩ = some (.pointer (some ⟨r, 0, none⟩)) ∧ w'.cell? ⟨r, 0, none⟩ = some (.int .i64 (cB : Int)) ∧ w'.cell? ⟨r, 2, none⟩ = some (.int .i64 (cS : Int))) w8 := HC.out w8 hck8.bel
          clear hck8
          refine hK.out _ _ (.inl (hS8)) ?_
          clear hK K
          try simp only [Act.put, List.setIfInBounds_toArray, List.set_cons_zero, List.set_cons_succ]
          clear hS0
          have hS0 := hS8
          dsimp only at hS0
          clear hS8
          refine wpAnyG_oneL (i := 19) (fuel := 2) (listed' := #[true, true, true, true, true, true, true, true, true, true, true, true, true, true, true, true, true, true, true, true, false, false]) rfl (by kernel_rfl) (by kernel_rfl) (by rfl) (fun K hK0 => ?_)
          have hK := Lib.hid hK0
          clear hK0
          go_simp
          refine (ck_erase H8.out bk).mono ?_
          rintro e w9 ⟨rfl, hck9⟩
          rw [eraseS_dead HDD.out] at hck9 ⊢
          have H9 := Lib.hid hck9
          have hS9 : (fun w' : World => w'.cell? ⟨w.heap.size + 1, 0, none⟩ = some (.int .i64 dd) ∧ w'.cell? ⟨w.heap.size + 1, 1, none⟩ = some (.int .i64 bk) ∧ w'.cell? ⟨w.heap.size + 1, 2, none⟩ = some (.int .i64 pg) ∧ w'.cell? ⟨w.heap.size + 1, 3, none⟩ = some (.int .u8 fl) ∧ w'.cell? ⟨w.heap.size + 1, 4, none⟩ = some (.slice Ab nb db) ∧ w'.cell? ⟨w.heap.size + 1, 5, none⟩ = some (.slice Ah nh dh) ∧ w'.cell? ⟨pb, 1, none⟩ = some (.pointer (some ⟨r, 0, none⟩)) ∧ w'.cell? ⟨r, 0, none⟩ = some (.int .i64 (cB : Int)) ∧ w'.cell? ⟨r, 2, none⟩ = some (.int .i64 (cS : Int))) w9 := HC.out w9 hck9.bel
          clear hck9
          refine hK.out _ _ (.inl (hS9)) ?_
          clear hK K
          try simp only [Act.put, List.setIfInBounds_toArray, List.set_cons_zero, List.set_cons_succ]
          clear hS0
          have hS0 := hS9
          dsimp only at hS0
          clear hS9
          refine wpAnyG_takeL (i := 20) (v := ?v36) (fuel := 1) (listed' := #[true, true, true, true, true, true, true, true, true, true, true, true, true, true, true, true, true, true, true, true, true, false]) rfl (by kernel_rfl) (fun _ _ _ h => h) (.inl ⟨by rfl, ?hy36⟩) (by assumption) (by kernel_rfl) ?rest36
          case hy36 => (intro w' hSw; (try dsimp only at hSw); go_simp; try with_reducible rfl)
          try simp only [Act.put, List.setIfInBounds_toArray, List.set_cons_zero, List.set_cons_succ]
          refine wpAnyG_oneL (i := 21) (fuel := 0) (listed' := #[true, true, true, true, true, true, true, true, true, true, true, true, true, true, true, true, true, true, true, true, true, true]) rfl (by kernel_rfl) (by kernel_rfl) (by rfl) (fun K hK0 => ?_)
          have hK := Lib.hid hK0
          clear hK0
          go_simp
          refine hK.out _ _ (.inr (by decide)) ?_
          clear hK K
          refine wpAnyG_done (by kernel_rfl) ?_ _
          clear hS0
          go_wp2_with fail
          refine (ck_power H9.out).mono ?_
          rintro e w10 ⟨g2, rfl, hn10, hck10⟩
          have H10 := Lib.hid (And.intro hn10 hck10)
          clear hn10 hck10
          go_wp2_with fail
          refine (ck_bytes H10.out.2).mono ?_
          rintro e w11 ⟨v11, rfl, ho11, hb11⟩
          have H11 := Lib.hid (And.intro ho11 (And.intro (H10.out.1.later hb11) (H10.out.2.later hb11)))
          clear ho11 hb11
          go_wp2_with fail
          refine (same_at w11 _ v11 cj.bytes (some ⟨g4, 0, none⟩) fll nbs cj.bytes HNB.out H11.out.1 (H11.out.2.2.row.rvTake (by rw [HNB.out]; exact H4.out.2.1)) (by have := H4.out.2.2; unfold maxLen; omega)).mono ?_
          rintro e w12 ⟨rfl, hd12⟩
          rw [decide_eq_true rfl]
          have H12 := Lib.hid (And.intro (H11.out.2.1.later (hd12.below _)) (H11.out.2.2.later (hd12.below _)))
          clear hd12
          go_wp2_with fail
          refine (ck_bytes H12.out.1).mono ?_
          rintro e w13 ⟨v13, rfl, ho13, hb13⟩
          have H13 := Lib.hid (And.intro ho13 (And.intro (H12.out.1.later hb13) (H12.out.2.later hb13)))
          clear ho13 hb13
          go_wp2_with fail
          refine (same_at w13 _ v13 cj.bytes (some ⟨g4, 0, none⟩) fll nbs cj.bytes HNB.out H13.out.1 (H13.out.2.2.row.rvTake (by rw [HNB.out]; exact H4.out.2.1)) (by have := H4.out.2.2; unfold maxLen; omega)).mono ?_
          rintro e w14 ⟨rfl, hd14⟩
          rw [decide_eq_true rfl]
          have H14 := Lib.hid (H13.out.2.1.later (hd14.below _))
          clear hd14
          go_wp2_with fail
          refine (ck_deeds H14.out).mono ?_
          rintro e w15 ⟨rfl, hw15⟩
          obtain rfl := hw15.symm
          clear hw15
          rw [show (powerS cj).deeds = 0 from rfl]
          go_wp2_with fail
          refine (works_any w14).mono ?_
          rintro e w16 ⟨rfl, hb16⟩
          have H16 := Lib.hid (below_then (below_then H1.out H1.out.size H14.out.bel) (below_then H1.out H1.out.size H14.out.bel).size hb16)
          clear hb16
          go_wp2_with fail
          go_ret
          exact ⟨rfl, H16.out⟩
        | false =>
          have HW := Lib.hid (works_any wr)
          go_wp2_with fail
          refine HW.out.mono ?_
          rintro e w2 ⟨rfl, hb2⟩
          have H2 := Lib.hid (below_then (below_then H1.out H1.out.size HX.out.2.1.bel) (below_then H1.out H1.out.size HX.out.2.1.bel).size hb2)
          clear hb2
          go_wp2_with fail
          go_ret
          exact ⟨rfl, H2.out⟩
  · obtain rfl := hno hm
    have HW := Lib.hid (works_any w1)
    clear hyes hno hb1
    go_wp2_with fail
    refine HW.out.mono ?_
    rintro e w2 ⟨rfl, hb2⟩
    have H2 := Lib.hid (below_then H1.out H1.out.size hb2)
    clear hb2
    go_wp2_with fail
    go_ret
    exact ⟨rfl, H2.out⟩
end Go.Proofs.Ytlcdabmclcfagaa
