import Derived.Test.YtckpgbkabbddnaaFactOM
import Derived.Test.YtckpgbkabbddnaaMApp
set_option linter.unusedVariables false
set_option linter.unusedSimpArgs false
/- The document's one: a change done to facts: contract. -/
namespace Go.Proofs.Ytckpgbkabbddnaa
open Go.RowKit

theorem valB_app {W w' : World} {v v' u : Value} {x : List UInt8} (h : ValB W v.ownBlock u x) (hg : W.grownBy w' v.ownBlock) (hv : v'.ownBlock = v.ownBlock ∨ ∃ k, v'.ownBlock = some k ∧ W.heap.size ≤ k) : ValB w' v'.ownBlock u x := by
  rcases hv with hv | ⟨k, hv, hk⟩
  · rw [hv]; exact h.grown hg
  · obtain ⟨A, c, e1, hr, l1, l2, l3⟩ := h
    refine ⟨A, c, e1, hr.grown hg (fun ad e hn => l3 ad e (by rwa [bv_length] at hn)), l1, l2, fun ad e hn he => ?_⟩
    have := hr.lt e (by rwa [bv_length])
    rw [hv] at he
    injection he with he
    omega
theorem valB_old {w wr : World} {row : Option Nat} {B : Option Addr} {d : Nat} {x : List UInt8} (hr : RV w B (bv x)) (h1 : x.length ≤ d) (h2 : d ≤ maxLen) (hb : Below w.heap.size w wr) (hrow : ∀ k, row = some k → w.heap.size ≤ k) : ValB wr row (.slice B x.length d) x := by
  refine ⟨B, d, rfl, hr.below hb, h1, h2, fun ad e hn he => ?_⟩
  have h3 := hr.lt e (by rwa [bv_length])
  have h4 := hrow _ he.symm
  omega
theorem valB_own {w : World} {base : Nat} {v : Value} {x : List UInt8} {e : TypeId} (h : OwnB e w base v x) : ValB w none v x := by
  obtain ⟨A, c, hv, hr, h1, h2, _⟩ := h.slice
  exact ⟨A, c, hv, hr, h1, h2, fun _ _ _ h => by cases h⟩
abbrev OwnF (w : World) (base : Nat) (v : Value) (n : Nat) (l : List Fct) : Prop := OwnL fctCells Fct.val (fun c => okKy c.key) 5 41 w base v n l
theorem fct_info : (Try.prog.info? 41).map (fun i => (i.zero.map (·.cells.size), i.size, i.bytes)) = some (some 5, 5, 64) := by kernel_rfl
theorem fct_info' : ∃ i z, Try.prog.info? 41 = some i ∧ i.zero = some z ∧ i.size = 5 ∧ i.bytes = 64 ∧ z.cells.size = 5 := by
  obtain ⟨i, hi, he⟩ := Option.map_eq_some_iff.1 fct_info
  simp only [Prod.mk.injEq] at he
  obtain ⟨z, hz, hz5⟩ := Option.map_eq_some_iff.1 he.1
  exact ⟨i, z, hi, hz, he.2.1, he.2.2, hz5⟩

set_option maxRecDepth 100000 in
set_option maxHeartbeats 2000000 in
theorem dOne_any (w : World) (A : Option Addr) (n d : Nat) (l : List Fct) (h : FctsIn w A n l) (hn : n * 64 ≤ 140737488351232)
    (k : Ky) (hk : okKy k) (B : Option Addr) (e : Nat) (x : List UInt8) (hx : RV w B (bv x)) (hx2 : x.length ≤ 140737488351232) (gone : Bool) :
    Calls Try.prog 34 #[.slice A n d, .agg #[.int .i64 k.ino, .int .u8 (k.what.toNat : Int), .string k.name, .int .i64 k.chunk, .slice B x.length e, .bool gone]] w
      fun e w' => ∃ v, e = .returned v ∧ OwnF w' w.heap.size v (oneF l ⟨k, x, gone⟩).length (oneF l ⟨k, x, gone⟩) ∧ Below w.heap.size w w' := by
  have hblk := Blk.new w 53 #[.int .i64 k.ino, .int .u8 (k.what.toNat : Int), .string k.name, .int .i64 k.chunk, .slice B x.length e, .bool gone]
  have H := Lib.hid (And.intro h (And.intro h.1 (And.intro hk (And.intro hx hblk))))
  clear h hx hblk
  obtain ⟨ki, ka, ks, kc⟩ := k
  dsimp only at H ⊢
  unfold oneF
  dsimp only
  generalize hc : (⟨⟨ki, ka, ks, kc⟩, x⟩ : Fct) = c at *
  have HC := Lib.hid hc
  clear hc hk
  obtain ⟨ii, iz, hii, hiz, hi1, hi2, hi3⟩ := fct_info'
  go_enter Try.func34, Try.ntmps34
  go_wp2_with (at_builtin; refine wpList_appB _ rfl _ _ 28 rfl (w.heap.size + 1) 5 Try.underlying28 u8info (.slice none 0 0) [] rfl (OwnB.nil _ _ _) B x.length e x rfl rfl (H.out.2.2.2.1.alloc _) ?_ ?_ ?_)
  · simp; omega
  · simp
  intro v7 w1 ho7 hg7 hv7
  have hb1 : Below w.heap.size w w1 := ((Below.refl _ _).alloc (Nat.le_refl _) _).trans ((grown_none hg7).mono (by simp))
  have hk1 := H.out.2.2.2.2.below (grown_none hg7) (by simp)
  have hvb := valB_own ho7
  obtain ⟨A7, c7, rfl, _, _, _, _⟩ := ho7.slice
  have H1 := Lib.hid (And.intro hvb (And.intro hb1 hk1))
  clear hvb
  clear ho7 hg7 hv7 hb1 hk1
  go_wp2_with fail
  go_loopg [5, 6, 8] n (fun k v dn i wr => ∃ (j m : Nat) (db : Bool) (outl : List Fct), j + k = n ∧ i = .int .i64 j ∧ dn = .bool db ∧ OwnF wr (w.heap.size + 1) v m outl ∧ ValB wr v.ownBlock (.slice A7 x.length c7) x ∧ Below w.heap.size w wr ∧
    Blk wr w.heap.size 53 #[.int .i64 ki, .int .u8 (ka.toNat : Int), .string ks, .int .i64 kc, .slice B x.length e, .bool gone] ∧ outl ++ oneGo c (l.drop j) db = oneGo c l gone ∧ m ≤ j + 1 ∧ (db = false → m ≤ j))
  case atStart => exact ⟨0, 0, gone, [], by omega, rfl, rfl, OwnL.nil _ _ _, H1.out.1, H1.out.2.1, H1.out.2.2, rfl, by omega, fun _ => Nat.le_refl _⟩
  case round =>
    obtain ⟨j, m, db, outl, hj, rfl, rfl, ho, hv7, hb, hk, heq, hm, hmf⟩ := hrel
    have HX := Lib.hid (And.intro hj (And.intro ho (And.intro hv7 (And.intro hb (And.intro hk heq)))))
    have hc0 := hk.cell 0
    have hc1 := hk.cell 1
    have hc2 := hk.cell 2
    have hc3 := hk.cell 3
    simp at hc0 hc1 hc2 hc3
    clear hj ho hv7 hb hk heq
    by_cases hlt : j < n
    · obtain ⟨f, hf⟩ : ∃ f, l[j]? = some f := ⟨_, List.getElem?_eq_getElem (by have := H.out.2.1; omega)⟩
      obtain ⟨okf, ad, B1, d1, hA, hr1, l1, l2, hblk, x0, x1, x2, x3, x4⟩ := FctsIn.at_ H.out.1 hf
      subst hA
      have up : ∀ {p : Addr} {u : Value}, w.cell? p = some u → p.block < w.heap.size → wr.cell? p = some u := fun hu hp => (World.cell?_of_block (HX.out.2.2.2.1.block _ hp)).trans hu
      have p0 := up x0 hblk
      have p1 := up x1 hblk
      have p2 := up x2 hblk
      have p3 := up x3 hblk
      have p4 := up x4 hblk
      have hjn : (j : Int) < (n : Int) := by omega
      have hd : l.drop j = f :: l.drop (j + 1) := by
        have h1 := (List.getElem?_eq_some_iff.1 hf)
        obtain ⟨h2, h3⟩ := h1
        rw [List.drop_eq_getElem_cons h2, h3]
      have heq := HX.out.2.2.2.2.2
      rw [hd, oneGo] at heq
      have HV := Lib.hid (And.intro okf (And.intro hr1 (And.intro l1 l2)))
      have HP := Lib.hid (And.intro x0 (And.intro x1 (And.intro x2 (And.intro x3 x4))))
      clear x0 x1 x2 x3 x4 up hf okf hr1 l1 l2 hd
      obtain ⟨⟨fi, fa, fs, fc⟩, fv⟩ := f
      dsimp only at p0 p1 p2 p3 p4 heq HP
      by_cases hkey : (⟨fi, fa, fs, fc⟩ : Ky) = ⟨ki, ka, ks, kc⟩
      · rw [← HC.out, if_pos hkey] at heq
        injection hkey with e1 e2 e3 e4
        subst e1 e2 e3 e4
        have HE := Lib.hid heq
        clear heq
        go_wp2_with fail
        go_quiet (fail)
        generalize hwx : wr.drewN nq = wx at *
        have HY := Lib.hid (show OwnF wx (w.heap.size + 1) u5 m outl ∧ ValB wx u5.ownBlock (.slice A7 x.length c7) x ∧ Below w.heap.size w wx ∧ w.heap.size + 1 ≤ wx.heap.size ∧ Blk wx w.heap.size 53 #[.int .i64 fi, .int .u8 (fa.toNat : Int), .string fs, .int .i64 fc, .slice B x.length e, .bool gone] from by
          subst hwx
          obtain ⟨_, q1, q2, q3, q4, _⟩ := HX.out
          have hbd := below_drewN (B := wr.heap.size) (Below.refl wr.heap.size wr) nq
          exact ⟨q1.below hbd, q2.below hbd, below_drewN q3 nq, by have := q4.lt; exact this, q4⟩)
        have z0 := HY.out.2.2.2.2.cell 0
        have z1 := HY.out.2.2.2.2.cell 1
        have z2 := HY.out.2.2.2.2.cell 2
        have z3 := HY.out.2.2.2.2.cell 3
        simp at z0 z1 z2 z3
        clear hwx p0 p1 p2 p3 p4 hc0 hc1 hc2 hc3
        cases db with
        | true =>
          clear hmf
          go_wp2_with fail
          go_roundg (n - (j + 1))
          case measure => have := HX.out.1; omega
          case rel => exact ⟨j + 1, m, true, outl, by have := HX.out.1; omega, by go_num, rfl, HY.out.1, HY.out.2.1, HY.out.2.2.1, HY.out.2.2.2.2, by have := HE.out; rw [HC.out] at this; simpa using this, by omega, fun h => by cases h⟩
        | false =>
          have hm := hmf rfl
          clear hmf
          go_wp2_with (at_builtin; refine wpList_appL1 (cell := fctCells) (val := Fct.val) (ok := fun c => okKy c.key) (sz := 5) _ rfl _ _ 22 rfl (w.heap.size + 1) 41 ii iz 64 Try.underlying22 hii hiz hi1 hi2 hi3 (by decide) fct_len fct_one u5 m outl rfl HY.out.1 c (.slice A7 x.length c7) rfl (by rw [← HC.out]; exact H.out.2.2.1) (by rw [← HC.out]; exact HY.out.2.1) _ (by rw [← HC.out]; rfl) ?_ ?_ ?_ ?_)
          · unfold maxLen; omega
          · omega
          · exact HY.out.2.2.2.1
          intro v2 w2 ho2 hg2 hv2
          have hbl := HY.out.2.2.2.2.grown hg2 (fun e => by have := (OwnL.blk HY.out.1 e.symm).1; omega)
          have H2 := Lib.hid (And.intro ho2 (And.intro (valB_app HY.out.2.1 hg2 hv2) (And.intro (HY.out.2.2.1.grown hg2 (by have := HY.out.2.2.2.1; omega) (fun k e => by have := (OwnL.blk HY.out.1 e).1; omega)) hbl)))
          clear ho2 hg2 hv2 hbl z0 z1 z2 z3
          go_wp2_with fail
          go_roundg (n - (j + 1))
          case measure => have := HX.out.1; omega
          case rel => exact ⟨j + 1, m + 1, true, outl ++ [c], by have := HX.out.1; omega, by go_num, rfl, H2.out.1, H2.out.2.1, H2.out.2.2.1, H2.out.2.2.2, by have := HE.out; rw [HC.out] at this; simpa using this, by omega, fun h => by cases h⟩
      · rw [if_neg (by rw [← HC.out]; exact hkey)] at heq
        have HB := Lib.hid (fun w => dBefore_any w ⟨ki, ka, ks, kc⟩ ⟨fi, fa, fs, fc⟩ H.out.2.2.1 HV.out.1)
        unfold Ky.val at HB
        dsimp only at HB
        have hdiff : ¬ fi = ki ∨ (fi = ki ∧ ¬ (fa.toNat : Int) = (ka.toNat : Int)) ∨ (fi = ki ∧ (fa.toNat : Int) = (ka.toNat : Int) ∧ ¬ fs.toList = ks.toList) ∨ (fi = ki ∧ (fa.toNat : Int) = (ka.toNat : Int) ∧ fs.toList = ks.toList ∧ ¬ fc = kc) := by
          by_cases e1 : fi = ki
          · by_cases e2 : (fa.toNat : Int) = (ka.toNat : Int)
            · by_cases e3 : fs.toList = ks.toList
              · by_cases e4 : fc = kc
                · exfalso
                  apply hkey
                  have q1 : fa = ka := UInt8.toNat.inj (by omega)
                  have q2 : fs = ks := ba_ext e3
                  rw [e1, q1, q2, e4]
                · exact .inr (.inr (.inr ⟨e1, e2, e3, e4⟩))
              · exact .inr (.inr (.inl ⟨e1, e2, e3⟩))
            · exact .inr (.inl ⟨e1, e2⟩)
          · exact .inl e1
        have hcase : (db = true) ∨ (db = false ∧ decide (keyLt ⟨ki, ka, ks, kc⟩ ⟨fi, fa, fs, fc⟩) = true) ∨ (db = false ∧ decide (keyLt ⟨ki, ka, ks, kc⟩ ⟨fi, fa, fs, fc⟩) = false) := by
          cases db
          · by_cases h : keyLt ⟨ki, ka, ks, kc⟩ ⟨fi, fa, fs, fc⟩
            · exact .inr (.inl ⟨rfl, decide_eq_true h⟩)
            · exact .inr (.inr ⟨rfl, decide_eq_false h⟩)
          · exact .inl rfl
        clear hkey
        have hq : ∀ W : World, (if fi = ki then if (fa.toNat : Int) = (ka.toNat : Int) then if fs.toList = ks.toList then if fc = kc then (Result.ok (Value.bool true) W : Result Value) else Result.ok (Value.bool false) W else Result.ok (Value.bool false) W else Result.ok (Value.bool false) W else Result.ok (Value.bool false) W) = Result.ok (Value.bool false) W := by
          intro W
          rcases hdiff with e1 | ⟨e1, e2⟩ | ⟨e1, e2, e3⟩ | ⟨e1, e2, e3, e4⟩
          · rw [if_neg e1]
          · rw [if_pos e1, if_neg e2]
          · rw [if_pos e1, if_pos e2, if_neg e3]
          · rw [if_pos e1, if_pos e2, if_pos e3, if_neg e4]
        clear hdiff
        rcases hcase with rfl | ⟨rfl, hlt'⟩ | ⟨rfl, hlt'⟩
        rotate_left
        all_goals (try (have hm := hmf rfl))
        all_goals clear hmf
        rotate_right
        · rw [if_neg (fun h => by cases h.1)] at heq
          have HE := Lib.hid heq
          clear heq
          all_goals
            go_wp2_with fail
            go_quiet (fail)
            generalize hwx : wr.drewN nq = wx at *
            have HY := Lib.hid (show OwnF wx (w.heap.size + 1) u5 m outl ∧ ValB wx u5.ownBlock (.slice A7 x.length c7) x ∧ Below w.heap.size w wx ∧ w.heap.size + 1 ≤ wx.heap.size ∧ Blk wx w.heap.size 53 #[.int .i64 ki, .int .u8 (ka.toNat : Int), .string ks, .int .i64 kc, .slice B x.length e, .bool gone] from by
              obtain ⟨_, q1, q2, q3, q4, _⟩ := HX.out
              have hbd : Below wr.heap.size wr wx := by rw [← hwx]; exact below_drewN (Below.refl wr.heap.size wr) nq
              have hlt9 := (q4.below hbd q4.lt).lt
              exact ⟨q1.below hbd, q2.below hbd, below_then q3 q3.size hbd, hlt9, q4.below hbd q4.lt⟩)
            clear hwx p0 p1 p2 p3 p4 hc0 hc1 hc2 hc3
            clear nq
            go_wp2_with fail
            go_quiet (fail)
            generalize hwy : wx.drewN nq = wy at *
            have HZ := Lib.hid (show OwnF wy (w.heap.size + 1) u5 m outl ∧ ValB wy u5.ownBlock (.slice A7 x.length c7) x ∧ Below w.heap.size w wy ∧ w.heap.size + 1 ≤ wy.heap.size ∧ Blk wy w.heap.size 53 #[.int .i64 ki, .int .u8 (ka.toNat : Int), .string ks, .int .i64 kc, .slice B x.length e, .bool gone] from by
              obtain ⟨q1, q2, q3, q4, q5⟩ := HY.out
              have hbd : Below wx.heap.size wx wy := by rw [← hwy]; exact below_drewN (Below.refl wx.heap.size wx) nq
              exact ⟨q1.below hbd, q2.below hbd, below_then q3 q3.size hbd, (q5.below hbd q5.lt).lt, q5.below hbd q5.lt⟩)
            clear hwy
            have up : ∀ {p : Addr} {u : Value}, w.cell? p = some u → p.block < w.heap.size → wy.cell? p = some u := fun hu hp => (World.cell?_of_block (HZ.out.2.2.1.block _ hp)).trans hu
            have p0 := up HP.out.1 hblk
            have p1 := up HP.out.2.1 hblk
            have p2 := up HP.out.2.2.1 hblk
            have p3 := up HP.out.2.2.2.1 hblk
            have p4 := up HP.out.2.2.2.2 hblk
            clear up
            have z0 := HZ.out.2.2.2.2.cell 0
            have z1 := HZ.out.2.2.2.2.cell 1
            have z2 := HZ.out.2.2.2.2.cell 2
            have z3 := HZ.out.2.2.2.2.cell 3
            simp at z0 z1 z2 z3
            go_wp2_with (at_builtin; refine wpList_appL1 (cell := fctCells) (val := Fct.val) (ok := fun c => okKy c.key) (sz := 5) _ rfl _ _ 22 rfl (w.heap.size + 1) 41 ii iz 64 Try.underlying22 hii hiz hi1 hi2 hi3 (by decide) fct_len fct_one u5 m outl rfl HZ.out.1 (⟨⟨fi, fa, fs, fc⟩, fv⟩ : Fct) (.slice B1 fv.length d1) rfl HV.out.1 (valB_old HV.out.2.1 HV.out.2.2.1 HV.out.2.2.2 HZ.out.2.2.1 (fun k e => by have := (OwnL.blk HZ.out.1 e).1; omega)) _ rfl ?_ ?_ ?_ ?_)
            · unfold maxLen; omega
            · omega
            · exact HZ.out.2.2.2.1
            intro v2 w2 ho hg hv
            have hbl := HZ.out.2.2.2.2.grown hg (fun e => by have := (OwnL.blk HZ.out.1 e.symm).1; omega)
            have H2 := Lib.hid (And.intro ho (And.intro (valB_app HZ.out.2.1 hg hv) (And.intro (HZ.out.2.2.1.grown hg (by have := HZ.out.2.2.2.1; omega) (fun k e => by have := (OwnL.blk HZ.out.1 e).1; omega)) (And.intro hbl.lt hbl))))
            clear ho hg hv hbl
            go_wp2_with fail
            go_roundg (n - (j + 1))
            case measure => have := HX.out.1; omega
            case rel => exact ⟨j + 1, m + 1, true, outl ++ [⟨⟨fi, fa, fs, fc⟩, fv⟩], by have := HX.out.1; omega, by go_num, rfl, H2.out.1, H2.out.2.1, H2.out.2.2.1, H2.out.2.2.2.2, by have := HE.out; simpa using this, by omega, fun h => by first | (cases h; done) | omega⟩
        · rw [if_pos ⟨rfl, by rw [← HC.out]; exact of_decide_eq_true hlt'⟩] at heq
          have HE := Lib.hid heq
          have HLT := Lib.hid hlt'
          clear heq hlt'
          all_goals
            go_wp2_with fail
            go_quiet (fail)
            generalize hwx : wr.drewN nq = wx at *
            have HY := Lib.hid (show OwnF wx (w.heap.size + 1) u5 m outl ∧ ValB wx u5.ownBlock (.slice A7 x.length c7) x ∧ Below w.heap.size w wx ∧ w.heap.size + 1 ≤ wx.heap.size ∧ Blk wx w.heap.size 53 #[.int .i64 ki, .int .u8 (ka.toNat : Int), .string ks, .int .i64 kc, .slice B x.length e, .bool gone] from by
              obtain ⟨_, q1, q2, q3, q4, _⟩ := HX.out
              have hbd : Below wr.heap.size wr wx := by rw [← hwx]; exact below_drewN (Below.refl wr.heap.size wr) nq
              have hlt9 := (q4.below hbd q4.lt).lt
              exact ⟨q1.below hbd, q2.below hbd, below_then q3 q3.size hbd, hlt9, q4.below hbd q4.lt⟩)
            clear hwx p0 p1 p2 p3 p4 hc0 hc1 hc2 hc3
            have up : ∀ {p : Addr} {u : Value}, w.cell? p = some u → p.block < w.heap.size → wx.cell? p = some u := fun hu hp => (World.cell?_of_block (HY.out.2.2.1.block _ hp)).trans hu
            have p0 := up HP.out.1 hblk
            have p1 := up HP.out.2.1 hblk
            have p2 := up HP.out.2.2.1 hblk
            have p3 := up HP.out.2.2.2.1 hblk
            have p4 := up HP.out.2.2.2.2 hblk
            clear up
            have z0 := HY.out.2.2.2.2.cell 0
            have z1 := HY.out.2.2.2.2.cell 1
            have z2 := HY.out.2.2.2.2.cell 2
            have z3 := HY.out.2.2.2.2.cell 3
            simp at z0 z1 z2 z3
            clear nq
            go_wp2_with fail
            refine wp_region_still_tail 10 (by kernel_rfl) (by kernel_rfl) ?_
            simp only [List.take_succ_cons, List.take_zero, List.drop_succ_cons, List.drop_zero]
            repeat still_step
            refine wpStill_nil ?_
            change wpList _ _ _ _ _ wx.drew
            generalize hwy : wx.drew = wy at *
            go_wp2_with fail
            refine (HB.out wy).mono ?_
            rintro e w3 ⟨rfl, hb3⟩
            have HZ := Lib.hid (show OwnF w3 (w.heap.size + 1) u5 m outl ∧ ValB w3 u5.ownBlock (.slice A7 x.length c7) x ∧ Below w.heap.size w w3 ∧ w.heap.size + 1 ≤ w3.heap.size ∧ Blk w3 w.heap.size 53 #[.int .i64 ki, .int .u8 (ka.toNat : Int), .string ks, .int .i64 kc, .slice B x.length e, .bool gone] from by
              obtain ⟨q1, q2, q3, q4, q5⟩ := HY.out
              have hbd0 : Below wx.heap.size wx wy := by rw [← hwy]; exact (Below.refl wx.heap.size wx).drew
              have hbd := below_then hbd0 hbd0.size hb3
              exact ⟨q1.below hbd, q2.below hbd, below_then q3 q3.size hbd, (q5.below hbd q5.lt).lt, q5.below hbd q5.lt⟩)
            clear hwy hb3
            rw [HLT.out]
            clear p0 p1 p2 p3 p4 z0 z1 z2 z3
            have up : ∀ {p : Addr} {u : Value}, w.cell? p = some u → p.block < w.heap.size → w3.cell? p = some u := fun hu hp => (World.cell?_of_block (HZ.out.2.2.1.block _ hp)).trans hu
            have p0 := up HP.out.1 hblk
            have p1 := up HP.out.2.1 hblk
            have p2 := up HP.out.2.2.1 hblk
            have p3 := up HP.out.2.2.2.1 hblk
            have p4 := up HP.out.2.2.2.2 hblk
            clear up
            have z0 := HZ.out.2.2.2.2.cell 0
            have z1 := HZ.out.2.2.2.2.cell 1
            have z2 := HZ.out.2.2.2.2.cell 2
            have z3 := HZ.out.2.2.2.2.cell 3
            simp at z0 z1 z2 z3
            go_wp2_with (at_builtin; refine wpList_appL1 (cell := fctCells) (val := Fct.val) (ok := fun c => okKy c.key) (sz := 5) _ rfl _ _ 22 rfl (w.heap.size + 1) 41 ii iz 64 Try.underlying22 hii hiz hi1 hi2 hi3 (by decide) fct_len fct_one u5 m outl rfl HZ.out.1 c (.slice A7 x.length c7) rfl (by rw [← HC.out]; exact H.out.2.2.1) (by rw [← HC.out]; exact HZ.out.2.1) _ (by rw [← HC.out]; rfl) ?_ ?_ ?_ ?_)
            · unfold maxLen; omega
            · omega
            · exact HZ.out.2.2.2.1
            intro v4 w4 ho hg hv
            have hbl := HZ.out.2.2.2.2.grown hg (fun e => by have := (OwnL.blk HZ.out.1 e.symm).1; omega)
            have H4 := Lib.hid (And.intro ho (And.intro (valB_app HZ.out.2.1 hg hv) (And.intro (HZ.out.2.2.1.grown hg (by have := HZ.out.2.2.2.1; omega) (fun k e => by have := (OwnL.blk HZ.out.1 e).1; omega)) (And.intro hbl.lt hbl))))
            clear ho hg hv hbl
            clear p0 p1 p2 p3 p4 z0 z1 z2 z3
            have up : ∀ {p : Addr} {u : Value}, w.cell? p = some u → p.block < w.heap.size → w4.cell? p = some u := fun hu hp => (World.cell?_of_block (H4.out.2.2.1.block _ hp)).trans hu
            have p0 := up HP.out.1 hblk
            have p1 := up HP.out.2.1 hblk
            have p2 := up HP.out.2.2.1 hblk
            have p3 := up HP.out.2.2.2.1 hblk
            have p4 := up HP.out.2.2.2.2 hblk
            clear up
            go_wp2_with (at_builtin; refine wpList_appL1 (cell := fctCells) (val := Fct.val) (ok := fun c => okKy c.key) (sz := 5) _ rfl _ _ 22 rfl (w.heap.size + 1) 41 ii iz 64 Try.underlying22 hii hiz hi1 hi2 hi3 (by decide) fct_len fct_one v4 (m + 1) (outl ++ [c]) rfl H4.out.1 (⟨⟨fi, fa, fs, fc⟩, fv⟩ : Fct) (.slice B1 fv.length d1) rfl HV.out.1 (valB_old HV.out.2.1 HV.out.2.2.1 HV.out.2.2.2 H4.out.2.2.1 (fun k e => by have := (OwnL.blk H4.out.1 e).1; omega)) _ rfl ?_ ?_ ?_ ?_)
            · unfold maxLen; omega
            · omega
            · exact H4.out.2.2.2.1
            intro v2 w2 ho hg hv
            have hbl := H4.out.2.2.2.2.grown hg (fun e => by have := (OwnL.blk H4.out.1 e.symm).1; omega)
            have H2 := Lib.hid (And.intro ho (And.intro (valB_app H4.out.2.1 hg hv) (And.intro (H4.out.2.2.1.grown hg (by have := H4.out.2.2.2.1; omega) (fun k e => by have := (OwnL.blk H4.out.1 e).1; omega)) (And.intro hbl.lt hbl))))
            clear ho hg hv hbl
            go_wp2_with fail
            go_roundg (n - (j + 1))
            case measure => have := HX.out.1; omega
            case rel => exact ⟨j + 1, m + 1 + 1, true, outl ++ [c, ⟨⟨fi, fa, fs, fc⟩, fv⟩], by have := HX.out.1; omega, by go_num, rfl, H2.out.1, H2.out.2.1, H2.out.2.2.1, H2.out.2.2.2.2, by have := HE.out; simpa using this, by omega, fun h => by first | (cases h; done) | omega⟩
        · rw [if_neg (fun h => by have h2 := h.2; rw [← HC.out] at h2; exact of_decide_eq_false hlt' h2)] at heq
          have HE := Lib.hid heq
          have HLT := Lib.hid hlt'
          clear heq hlt'
          all_goals
            go_wp2_with fail
            go_quiet (fail)
            generalize hwx : wr.drewN nq = wx at *
            have HY := Lib.hid (show OwnF wx (w.heap.size + 1) u5 m outl ∧ ValB wx u5.ownBlock (.slice A7 x.length c7) x ∧ Below w.heap.size w wx ∧ w.heap.size + 1 ≤ wx.heap.size ∧ Blk wx w.heap.size 53 #[.int .i64 ki, .int .u8 (ka.toNat : Int), .string ks, .int .i64 kc, .slice B x.length e, .bool gone] from by
              obtain ⟨_, q1, q2, q3, q4, _⟩ := HX.out
              have hbd : Below wr.heap.size wr wx := by rw [← hwx]; exact below_drewN (Below.refl wr.heap.size wr) nq
              have hlt9 := (q4.below hbd q4.lt).lt
              exact ⟨q1.below hbd, q2.below hbd, below_then q3 q3.size hbd, hlt9, q4.below hbd q4.lt⟩)
            clear hwx p0 p1 p2 p3 p4 hc0 hc1 hc2 hc3
            have up : ∀ {p : Addr} {u : Value}, w.cell? p = some u → p.block < w.heap.size → wx.cell? p = some u := fun hu hp => (World.cell?_of_block (HY.out.2.2.1.block _ hp)).trans hu
            have p0 := up HP.out.1 hblk
            have p1 := up HP.out.2.1 hblk
            have p2 := up HP.out.2.2.1 hblk
            have p3 := up HP.out.2.2.2.1 hblk
            have p4 := up HP.out.2.2.2.2 hblk
            clear up
            have z0 := HY.out.2.2.2.2.cell 0
            have z1 := HY.out.2.2.2.2.cell 1
            have z2 := HY.out.2.2.2.2.cell 2
            have z3 := HY.out.2.2.2.2.cell 3
            simp at z0 z1 z2 z3
            clear nq
            go_wp2_with fail
            refine wp_region_still_tail 10 (by kernel_rfl) (by kernel_rfl) ?_
            simp only [List.take_succ_cons, List.take_zero, List.drop_succ_cons, List.drop_zero]
            repeat still_step
            refine wpStill_nil ?_
            change wpList _ _ _ _ _ wx.drew
            generalize hwy : wx.drew = wy at *
            go_wp2_with fail
            refine (HB.out wy).mono ?_
            rintro e w3 ⟨rfl, hb3⟩
            have HZ := Lib.hid (show OwnF w3 (w.heap.size + 1) u5 m outl ∧ ValB w3 u5.ownBlock (.slice A7 x.length c7) x ∧ Below w.heap.size w w3 ∧ w.heap.size + 1 ≤ w3.heap.size ∧ Blk w3 w.heap.size 53 #[.int .i64 ki, .int .u8 (ka.toNat : Int), .string ks, .int .i64 kc, .slice B x.length e, .bool gone] from by
              obtain ⟨q1, q2, q3, q4, q5⟩ := HY.out
              have hbd0 : Below wx.heap.size wx wy := by rw [← hwy]; exact (Below.refl wx.heap.size wx).drew
              have hbd := below_then hbd0 hbd0.size hb3
              exact ⟨q1.below hbd, q2.below hbd, below_then q3 q3.size hbd, (q5.below hbd q5.lt).lt, q5.below hbd q5.lt⟩)
            clear hwy hb3
            rw [HLT.out]
            clear p0 p1 p2 p3 p4 z0 z1 z2 z3
            have up : ∀ {p : Addr} {u : Value}, w.cell? p = some u → p.block < w.heap.size → w3.cell? p = some u := fun hu hp => (World.cell?_of_block (HZ.out.2.2.1.block _ hp)).trans hu
            have p0 := up HP.out.1 hblk
            have p1 := up HP.out.2.1 hblk
            have p2 := up HP.out.2.2.1 hblk
            have p3 := up HP.out.2.2.2.1 hblk
            have p4 := up HP.out.2.2.2.2 hblk
            clear up
            have z0 := HZ.out.2.2.2.2.cell 0
            have z1 := HZ.out.2.2.2.2.cell 1
            have z2 := HZ.out.2.2.2.2.cell 2
            have z3 := HZ.out.2.2.2.2.cell 3
            simp at z0 z1 z2 z3
            go_wp2_with (at_builtin; refine wpList_appL1 (cell := fctCells) (val := Fct.val) (ok := fun c => okKy c.key) (sz := 5) _ rfl _ _ 22 rfl (w.heap.size + 1) 41 ii iz 64 Try.underlying22 hii hiz hi1 hi2 hi3 (by decide) fct_len fct_one u5 m outl rfl HZ.out.1 (⟨⟨fi, fa, fs, fc⟩, fv⟩ : Fct) (.slice B1 fv.length d1) rfl HV.out.1 (valB_old HV.out.2.1 HV.out.2.2.1 HV.out.2.2.2 HZ.out.2.2.1 (fun k e => by have := (OwnL.blk HZ.out.1 e).1; omega)) _ rfl ?_ ?_ ?_ ?_)
            · unfold maxLen; omega
            · omega
            · exact HZ.out.2.2.2.1
            intro v2 w2 ho hg hv
            have hbl := HZ.out.2.2.2.2.grown hg (fun e => by have := (OwnL.blk HZ.out.1 e.symm).1; omega)
            have H2 := Lib.hid (And.intro ho (And.intro (valB_app HZ.out.2.1 hg hv) (And.intro (HZ.out.2.2.1.grown hg (by have := HZ.out.2.2.2.1; omega) (fun k e => by have := (OwnL.blk HZ.out.1 e).1; omega)) (And.intro hbl.lt hbl))))
            clear ho hg hv hbl
            go_wp2_with fail
            go_roundg (n - (j + 1))
            case measure => have := HX.out.1; omega
            case rel => exact ⟨j + 1, m + 1, false, outl ++ [⟨⟨fi, fa, fs, fc⟩, fv⟩], by have := HX.out.1; omega, by go_num, rfl, H2.out.1, H2.out.2.1, H2.out.2.2.1, H2.out.2.2.2.2, by have := HE.out; simpa using this, by omega, fun h => by first | (cases h; done) | omega⟩
    · obtain rfl : j = n := by have := HX.out.1; omega
      have hge : ¬ (j : Int) < (j : Int) := by omega
      have heq := HX.out.2.2.2.2.2
      rw [List.drop_eq_nil_of_le (by rw [H.out.2.1]; exact Nat.le_refl _), oneGo] at heq
      have hsz1 : w.heap.size + 1 ≤ wr.heap.size := HX.out.2.2.2.2.1.lt
      cases db with
      | true =>
        rw [if_pos rfl, List.append_nil] at heq
        have HE := Lib.hid heq
        clear heq hmf
        go_wp2_with fail
        go_ret
        rw [← HE.out]
        have ho := HX.out.2.1
        have hlen := OwnL.len ho
        rw [hlen]
        exact ⟨_, rfl, ho.lower (by omega), HX.out.2.2.2.1⟩
      | false =>
        rw [if_neg (by decide)] at heq
        have HE := Lib.hid heq
        have hm := hmf rfl
        clear heq hmf
        have HY := Lib.hid (show OwnF wr (w.heap.size + 1) u5 m outl ∧ ValB wr u5.ownBlock (.slice A7 x.length c7) x ∧ Below w.heap.size w wr ∧ w.heap.size + 1 ≤ wr.heap.size ∧ Blk wr w.heap.size 53 #[.int .i64 ki, .int .u8 (ka.toNat : Int), .string ks, .int .i64 kc, .slice B x.length e, .bool gone] from ⟨HX.out.2.1, HX.out.2.2.1, HX.out.2.2.2.1, hsz1, HX.out.2.2.2.2.1⟩)
        clear hsz1
        go_wp2_with (at_builtin; refine wpList_appL1 (cell := fctCells) (val := Fct.val) (ok := fun c => okKy c.key) (sz := 5) _ rfl _ _ 22 rfl (w.heap.size + 1) 41 ii iz 64 Try.underlying22 hii hiz hi1 hi2 hi3 (by decide) fct_len fct_one u5 m outl rfl HY.out.1 c (.slice A7 x.length c7) rfl (by rw [← HC.out]; exact H.out.2.2.1) (by rw [← HC.out]; exact HY.out.2.1) _ (by rw [← HC.out]; rfl) ?_ ?_ ?_ ?_)
        · unfold maxLen; omega
        · omega
        · exact HY.out.2.2.2.1
        intro v2 w2 ho hg hv
        have hbl := HY.out.2.2.2.2.grown hg (fun e => by have := (OwnL.blk HY.out.1 e.symm).1; omega)
        have H2 := Lib.hid (And.intro ho (And.intro (valB_app HY.out.2.1 hg hv) (And.intro (HY.out.2.2.1.grown hg (by have := HY.out.2.2.2.1; omega) (fun k e => by have := (OwnL.blk HY.out.1 e).1; omega)) (And.intro hbl.lt hbl))))
        clear ho hg hv hbl
        go_wp2_with fail
        go_ret
        rw [← HE.out]
        have ho := H2.out.1
        have hlen := OwnL.len ho
        rw [hlen]
        exact ⟨_, rfl, ho.lower (by omega), H2.out.2.2.1⟩
end Go.Proofs.Ytckpgbkabbddnaa
