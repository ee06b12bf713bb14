import Derived.Deep.QuietTactic
import Derived.BigQuiet
import Derived.Test.YtlioclicopakbaaShNrM
import Derived.Test.YtlioclicopakbaaWorks16M
set_option linter.unusedVariables false
set_option linter.unusedSimpArgs false
/- Layer 16: starts, has, full: contracts. -/
namespace Go.Proofs.Ytlioclicopakbaa
open Go.RowKit

theorem stGo_step {L : List Ky} {p : Nat} {cs : List Nat} {j c : Nat} {k : Ky} (hc : cs[j]? = some c) (hk : L[p]? = some k) : stGo L p (cs.drop j) = k :: stGo L (p + c) (cs.drop (j + 1)) := by
  obtain ⟨h1, h2⟩ := List.getElem?_eq_some_iff.1 hc
  rw [List.drop_eq_getElem_cons h1, h2, stGo, hk]
  rfl
theorem flGo_step {L : List Ky} {p : Nat} {cs : List Nat} {j c : Nat} (hc : cs[j]? = some c) : flGo L p (cs.drop j) = (flOne L (p + c) (cs.drop (j + 1)) || flGo L (p + c) (cs.drop (j + 1))) := by
  obtain ⟨h1, h2⟩ := List.getElem?_eq_some_iff.1 hc
  rw [List.drop_eq_getElem_cons h1, h2, flGo]
theorem sum_drop {cs : List Nat} {j c : Nat} (hc : cs[j]? = some c) : (cs.drop j).sum = c + (cs.drop (j + 1)).sum := by
  obtain ⟨h1, h2⟩ := List.getElem?_eq_some_iff.1 hc
  rw [List.drop_eq_getElem_cons h1, h2, List.sum_cons]

set_option maxRecDepth 100000 in
set_option maxHeartbeats 1000000 in
theorem starts16_any (w : World) (A : Option Addr) (n d : Nat) (l : List Fct) (h : FctsIn w A n l) (hn : n * 64 ≤ 140737488351232) (B : Option Addr) (m e : Nat) (cs : List Nat) (hr : RV w B (iv cs)) (hm : cs.length = m) (hs : cs.sum = n) (hp : ∀ c ∈ cs, 1 ≤ c) (hmn : m ≤ n) :
    Calls Try.prog 24 #[.slice A n d, .slice B m e] w fun e w' => ∃ v, e = .returned v ∧ OwnY w' w.heap.size v m (stGo (l.map (·.key)) 0 cs) ∧ Below w.heap.size w w' := by
  have H := Lib.hid (And.intro h (And.intro h.1 (And.intro hr (And.intro hm (And.intro hs hp)))))
  obtain ⟨L, hL⟩ : ∃ L, l.map (·.key) = L := ⟨_, rfl⟩
  rw [hL]
  have HL := Lib.hid hL
  clear h hr hm hs hp hL
  obtain ⟨ii, iz, hii, hiz, hi1, hi2, hi3⟩ := ky_info'
  go_enter Try.func24, Try.ntmps24
  go_wp2_with fail
  go_loopg [5, 6, 7] m (fun k v t i wr => ∃ (j p : Nat) (acc : List Ky), j + k = m ∧ i = .int .i64 j ∧ t = .int .i64 p ∧ OwnY wr w.heap.size v j acc ∧ Below w.heap.size w wr ∧ acc ++ stGo L p (cs.drop j) = stGo L 0 cs ∧ p + (cs.drop j).sum = n)
  case atStart => exact ⟨0, 0, [], by omega, rfl, rfl, OwnL.nil _ _ _, Below.refl _ _, by simp, by have := H.out.2.2.2.2.1; simp; exact this⟩
  case round =>
    obtain ⟨j, p, acc, hj, rfl, rfl, ho, hb, heq, hsm⟩ := hrel
    have HX := Lib.hid (And.intro hj (And.intro ho (And.intro hb (And.intro heq hsm))))
    clear hj ho hb heq hsm
    by_cases hlt : j < m
    · obtain ⟨c, hc⟩ : ∃ c, cs[j]? = some c := ⟨_, List.getElem?_eq_getElem (by have := H.out.2.2.2.1; omega)⟩
      have hc1 := H.out.2.2.2.2.2 c (List.mem_of_getElem? hc)
      have hsd := sum_drop hc
      have hpn : p + c ≤ n := by have := HX.out.2.2.2.2; omega
      obtain ⟨f, hf⟩ : ∃ f, l[p]? = some f := ⟨_, List.getElem?_eq_getElem (by have := H.out.2.1; omega)⟩
      have hk : L[p]? = some f.key := by rw [← HL.out, List.getElem?_map, hf]; rfl
      obtain ⟨okf, ad, B1, d1, hA, hr1, l1, l2, hblk, x0, x1, x2, x3, x4⟩ := FctsIn.at_ H.out.1 hf
      subst hA
      obtain ⟨adB, hB, hcell⟩ := H.out.2.2.1 (by rw [iv_length]; have := H.out.2.2.2.1; omega)
      have yc := hcell j (.int .i64 (c : Int)) (by rw [iv_get, hc]; rfl)
      subst hB
      have hblkB := World.block_lt_of_cell? w _ yc
      have up : ∀ (w1 : World), Below w.heap.size w w1 → ∀ {p : Addr} {u : Value}, w.cell? p = some u → p.block < w.heap.size → w1.cell? p = some u := fun w1 hb {p} {u} hu hp => (World.cell?_of_block (hb.block _ hp)).trans hu
      have p0 := up wr HX.out.2.2.1 x0 hblk
      have p1 := up wr HX.out.2.2.1 x1 hblk
      have p2 := up wr HX.out.2.2.1 x2 hblk
      have p3 := up wr HX.out.2.2.1 x3 hblk
      have hpnI : (p : Int) < (n : Int) := by omega
      have hjm : (j : Int) < (m : Int) := by omega
      have hnext : (acc ++ [f.key]) ++ stGo L (p + c) (cs.drop (j + 1)) = stGo L 0 cs := by
        have h1 := HX.out.2.2.2.1
        rw [stGo_step hc hk] at h1
        rw [← h1]
        simp
      have HV := Lib.hid (And.intro okf (And.intro hnext (And.intro (show p + c + (cs.drop (j + 1)).sum = n by have := HX.out.2.2.2.2; omega) (fun w1 hb => up w1 hb yc hblkB))))
      clear x0 x1 x2 x3 x4 up hf okf hr1 hk hc hsd hnext yc hcell hblkB
      obtain ⟨⟨fi, fa, fs, fc⟩, fv⟩ := f
      dsimp only at p0 p1 p2 p3 HV l1
      go_wp2_with (at_builtin; refine wpList_appL1 (cell := kyCells) (val := kyVal) (ok := okKy) (sz := 4) wr rfl _ _ 28 rfl w.heap.size 33 ii iz 40 Try.underlying28 hii hiz hi1 hi2 hi3 (by decide) ky_len ky_one u5 j acc rfl HX.out.2.1 (⟨fi, fa, fs, fc⟩ : Ky) (.slice none 0 0) rfl HV.out.1 (noVal _ _) _ rfl ?_ ?_ ?_ ?_)
      · unfold maxLen; omega
      · omega
      · exact HX.out.2.2.1.size
      intro v2 w2 ho2 hg2 hv2
      have hb2 := HX.out.2.2.1.grown hg2 HX.out.2.2.1.size (fun k e => (OwnL.blk HX.out.2.1 e).1)
      have yc := HV.out.2.2.2 w2 hb2
      have H2 := Lib.hid (And.intro ho2 hb2)
      clear ho2 hg2 hv2 p0 p1 p2 p3 hb2
      go_wp2_with fail
      go_roundg (m - (j + 1))
      case measure => have := HX.out.1; omega
      case rel => exact ⟨j + 1, p + c, _, by have := HX.out.1; omega, by go_num, by go_num, H2.out.1, H2.out.2, HV.out.2.1, HV.out.2.2.1⟩
    · obtain rfl : j = m := by have := HX.out.1; omega
      have hge : ¬ (j : Int) < (j : Int) := by omega
      have ho := HX.out.2.2.2.1
      rw [List.drop_of_length_le (by have := H.out.2.2.2.1; omega)] at ho
      have HO := Lib.hid ho
      clear ho
      go_wp2_with fail
      go_ret
      have h2 := HO.out
      rw [show stGo L p [] = [] from rfl, List.append_nil] at h2
      rw [← h2]
      exact ⟨_, rfl, HX.out.2.1, HX.out.2.2.1⟩

theorem key_split' {a b : Ky} (h : a ≠ b) {R : Type} (x y : R) : (if a.ino = b.ino then if (a.what.toNat : Int) = (b.what.toNat : Int) then if a.name.toList = b.name.toList then if a.chunk = b.chunk then x else y else y else y else y) = y := by
  by_cases e1 : a.ino = b.ino
  · by_cases e2 : (a.what.toNat : Int) = (b.what.toNat : Int)
    · by_cases e3 : a.name.toList = b.name.toList
      · by_cases e4 : a.chunk = b.chunk
        · exfalso
          apply h
          obtain ⟨a1, a2, a3, a4⟩ := a
          obtain ⟨b1, b2, b3, b4⟩ := b
          dsimp only at e1 e2 e3 e4
          have q1 : a2 = b2 := UInt8.toNat.inj (by omega)
          have q2 : a3 = b3 := ba_ext e3
          rw [e1, q1, q2, e4]
        · rw [if_pos e1, if_pos e2, if_pos e3, if_neg e4]
      · rw [if_pos e1, if_pos e2, if_neg e3]
    · rw [if_pos e1, if_neg e2]
  · rw [if_neg e1]

set_option maxRecDepth 100000 in
set_option maxHeartbeats 1000000 in
theorem has16_any (w : World) (A : Option Addr) (n d : Nat) (L : List Ky) (h : KeysIn w A n L) (hn : n ≤ 140737488351232) (k : Ky) :
    Calls Try.prog 25 #[.slice A n d, k.val] w fun e w' => e = .returned (.bool (decide (k ∈ L))) ∧ Below w.heap.size w w' := by
  have H := Lib.hid (And.intro h h.1)
  obtain ⟨r, hr⟩ : ∃ r, decide (k ∈ L) = r := ⟨_, rfl⟩
  rw [hr]
  have HR := Lib.hid hr
  clear h hr
  obtain ⟨ki, ka, ks, kc⟩ := k
  unfold Ky.val
  dsimp only
  have hb0 := (Below.refl w.heap.size w).alloc (Nat.le_refl _) (.cells #[.int .i64 ki, .int .u8 (ka.toNat : Int), .string ks, .int .i64 kc] 33)
  have hB := Blk.new w 33 #[.int .i64 ki, .int .u8 (ka.toNat : Int), .string ks, .int .i64 kc]
  have HB := Lib.hid (And.intro hb0 hB)
  clear hb0 hB
  go_enter Try.func25, Try.ntmps25
  go_wp2_with fail
  generalize w.alloc (.cells #[.int .i64 ki, .int .u8 (ka.toNat : Int), .string ks, .int .i64 kc] 33) = w1 at *
  go_loopg [5] n (fun k i wr => ∃ j t : Nat, j + k = n ∧ i = .int .i64 j ∧ wr = w1.drewN t ∧ ∀ x ∈ L.take j, x ≠ ⟨ki, ka, ks, kc⟩)
  case atStart => exact ⟨0, 0, by omega, rfl, rfl, fun x hx => by simp at hx⟩
  case round =>
    obtain ⟨j, t, hj, rfl, rfl, hall⟩ := hrel
    have HX := Lib.hid (And.intro hj hall)
    clear hj hall
    by_cases hlt : j < n
    · obtain ⟨f, hf⟩ : ∃ f, L[j]? = some f := ⟨_, List.getElem?_eq_getElem (by have := H.out.2; omega)⟩
      obtain ⟨okf, ad, hA, hblk, x0, x1, x2, x3⟩ := KeysIn.at_ H.out.1 hf
      subst hA
      have up : ∀ {p : Addr} {u : Value}, w.cell? p = some u → p.block < w.heap.size → w1.cell? p = some u := fun hu hp => (World.cell?_of_block (HB.out.1.block _ hp)).trans hu
      have p0 := up x0 hblk
      have p1 := up x1 hblk
      have p2 := up x2 hblk
      have p3 := up x3 hblk
      have c0 : w1.cell? ⟨w.heap.size, 0, none⟩ = some (.int .i64 ki) := HB.out.2.cell 0
      have c1 : w1.cell? ⟨w.heap.size, 1, none⟩ = some (.int .u8 (ka.toNat : Int)) := HB.out.2.cell 1
      have c2 : w1.cell? ⟨w.heap.size, 2, none⟩ = some (.string ks) := HB.out.2.cell 2
      have c3 : w1.cell? ⟨w.heap.size, 3, none⟩ = some (.int .i64 kc) := HB.out.2.cell 3
      have hjn : (j : Int) < (n : Int) := by omega
      by_cases hk : f = ⟨ki, ka, ks, kc⟩
      · have hrt : r = true := by
          rw [← HR.out]
          exact decide_eq_true (by rw [← hk]; exact List.mem_of_getElem? hf)
        subst hk
        clear x0 x1 x2 x3 up hf okf
        dsimp only at p0 p1 p2 p3
        go_wp2_with fail
        go_quiet (fail)
        rw [World.drewN_drewN]
        generalize t + nq = tB
        go_wp2_with fail
        go_ret
        first | exact ⟨rfl, below_drewN HB.out.1 tB⟩ | exact ⟨ret_bool hrt.symm, below_drewN HB.out.1 tB⟩
      · have hq : ∀ W : World, (if f.ino = ki then if (f.what.toNat : Int) = (ka.toNat : Int) then if f.name.toList = ks.toList then if f.chunk = kc then (Result.ok (Value.bool true) W : Result Value) else Result.ok (Value.bool false) W else Result.ok (Value.bool false) W else Result.ok (Value.bool false) W else Result.ok (Value.bool false) W) = Result.ok (Value.bool false) W := fun W => key_split' hk _ _
        have hall : ∀ x ∈ L.take (j + 1), x ≠ ⟨ki, ka, ks, kc⟩ := fun x hx => by
          rw [List.take_add_one, hf] at hx
          rcases List.mem_append.1 hx with hx | hx
          · exact HX.out.2 x hx
          · simp at hx
            rw [hx]
            exact hk
        have HA := Lib.hid hall
        clear x0 x1 x2 x3 up hf okf hk hall
        obtain ⟨fi, fa, fs, fc⟩ := f
        dsimp only at p0 p1 p2 p3 hq
        go_wp2_with fail
        go_quiet (fail)
        rw [World.drewN_drewN]
        generalize t + nq = tB
        clear nq hq
        go_wp2_with fail
        go_roundg (n - (j + 1))
        case measure => have := HX.out.1; omega
        case rel => exact ⟨j + 1, tB, by have := HX.out.1; omega, by go_num, rfl, HA.out⟩
    · obtain rfl : j = n := by have := HX.out.1; omega
      have hge : ¬ (j : Int) < (j : Int) := by omega
      have hrt : r = false := by
        rw [← HR.out]
        refine decide_eq_false fun hm => ?_
        have := HX.out.2
        rw [List.take_of_length_le (by have := H.out.2; omega)] at this
        exact this _ hm rfl
      go_wp2_with fail
      go_ret
      first | exact ⟨rfl, below_drewN HB.out.1 t⟩ | exact ⟨ret_bool hrt.symm, below_drewN HB.out.1 t⟩

set_option maxRecDepth 100000 in
set_option maxHeartbeats 1000000 in
theorem full16_any (w : World) (A : Option Addr) (n d : Nat) (l : List Fct) (h : FctsIn w A n l) (hn : n * 64 ≤ 140737488351232) (B : Option Addr) (m e : Nat) (cs : List Nat) (hr : RV w B (iv cs)) (hm : cs.length = m) (hs : cs.sum = n) (hp : ∀ c ∈ cs, 1 ≤ c) (hmn : m ≤ n) :
    Calls Try.prog 23 #[.slice A n d, .slice B m e] w fun e w' => e = .returned (.bool (flGo (l.map (·.key)) 0 cs)) ∧ Below w.heap.size w w' := by
  have H := Lib.hid (And.intro h (And.intro h.1 (And.intro hr (And.intro hm (And.intro hs hp)))))
  obtain ⟨L, hL⟩ : ∃ L, l.map (·.key) = L := ⟨_, rfl⟩
  rw [hL]
  have HL := Lib.hid hL
  obtain ⟨r, hrr⟩ : ∃ r, flGo L 0 cs = r := ⟨_, rfl⟩
  rw [hrr]
  have HR := Lib.hid hrr
  clear h hr hm hs hp hL hrr
  go_enter Try.func23, Try.ntmps23
  go_wp2_with fail
  go_loopg [5, 6] m (fun k t i wr => ∃ (j p : Nat), j + k = m ∧ i = .int .i64 j ∧ t = .int .i64 p ∧ Below w.heap.size w wr ∧ flGo L p (cs.drop j) = r ∧ p + (cs.drop j).sum = n)
  case atStart => exact ⟨0, 0, by omega, rfl, rfl, Below.refl _ _, by simpa using HR.out, by have := H.out.2.2.2.2.1; simp; exact this⟩
  case round =>
    obtain ⟨j, p, hj, rfl, rfl, hb, heq, hsm⟩ := hrel
    have HX := Lib.hid (And.intro hj (And.intro hb (And.intro heq hsm)))
    clear hj hb heq hsm
    by_cases hlt : j < m
    · obtain ⟨c, hc⟩ : ∃ c, cs[j]? = some c := ⟨_, List.getElem?_eq_getElem (by have := H.out.2.2.2.1; omega)⟩
      have hc1 := H.out.2.2.2.2.2 c (List.mem_of_getElem? hc)
      have hsd := sum_drop hc
      have hpn : p + c ≤ n := by have := HX.out.2.2.2; omega
      have hfs := flGo_step (L := L) (p := p) hc
      rw [HX.out.2.2.1] at hfs
      obtain ⟨q, hq⟩ : ∃ q, p + c = q + 1 := ⟨p + c - 1, by omega⟩
      obtain ⟨f, hf⟩ : ∃ f, l[q]? = some f := ⟨_, List.getElem?_eq_getElem (by have := H.out.2.1; omega)⟩
      have hk : L[q]? = some f.key := by rw [← HL.out, List.getElem?_map, hf]; rfl
      obtain ⟨okf, ad, B1, d1, hA, hr1, l1, l2, hblk, x0, x1, x2, x3, x4⟩ := FctsIn.at_ H.out.1 hf
      subst hA
      obtain ⟨adB, hB, hcell⟩ := H.out.2.2.1 (by rw [iv_length]; have := H.out.2.2.2.1; omega)
      have yc0 := hcell j (.int .i64 (c : Int)) (by rw [iv_get, hc]; rfl)
      subst hB
      have hblkB := World.block_lt_of_cell? w _ yc0
      have up : ∀ {p : Addr} {u : Value}, w.cell? p = some u → p.block < w.heap.size → wr.cell? p = some u := fun hu hp => (World.cell?_of_block (HX.out.2.1.block _ hp)).trans hu
      have p0 := up x0 hblk
      have p1 := up x1 hblk
      have p2 := up x2 hblk
      have p3 := up x3 hblk
      have yc := up yc0 hblkB
      have hjm : (j : Int) < (m : Int) := by omega
      have hw1 : IntKind.i64.wrap ((p : Int) + (c : Int)) = ((q + 1 : Nat) : Int) := (IntWalk.i64_in _ (by omega)).trans (by omega)
      have hw2 : IntKind.i64.wrap ((m : Int) - 1) = (m : Int) - 1 := IntWalk.i64_in _ (by omega)
      have hw3 : IntKind.i64.wrap (((q + 1 : Nat) : Int) - 1) = (q : Int) := (IntWalk.i64_in _ (by omega)).trans (by omega)
      have hsm : q + 1 + (cs.drop (j + 1)).sum = n := by have := HX.out.2.2.2; omega
      rw [hq] at hfs
      have hqn : q < n := by omega
      have HE := Lib.hid (fun w => endK_any w f.key okf)
      obtain ⟨en, hen⟩ : ∃ en, endS f.key = en := ⟨_, rfl⟩
      rw [hen] at HE
      by_cases hl : j + 1 < m
      · obtain ⟨c', r', hdr⟩ : ∃ c' r', cs.drop (j + 1) = c' :: r' := by
          have h1 : j + 1 < cs.length := by have := H.out.2.2.2.1; omega
          exact ⟨_, _, List.drop_eq_getElem_cons h1⟩
        have hone : flOne L (q + 1) (cs.drop (j + 1)) = !en := by
          rw [hdr]
          unfold flOne
          dsimp only
          rw [if_neg (by omega), Nat.add_sub_cancel, hk]
          dsimp only
          rw [hen]
        rw [hone] at hfs
        have g1 : decide ((j : Int) < (m : Int) - 1) = true := decide_eq_true (by omega)
        have g1' : (j : Int) < (m : Int) - 1 := by omega
        have g2 : decide ((1 : Int) ≤ ((q + 1 : Nat) : Int)) = true := decide_eq_true (by omega)
        have g3 : decide (((q + 1 : Nat) : Int) ≤ (n : Int)) = true := decide_eq_true (by omega)
        have HV := Lib.hid (And.intro hfs hsm)
        clear x0 x1 x2 x3 x4 up hf okf hr1 hk hc hsd hfs yc0 hcell hblkB hsm hen hdr hone hq
        obtain ⟨⟨fi, fa, fs, fc⟩, fv⟩ := f
        unfold Ky.val at HE
        dsimp only at p0 p1 p2 p3 HE l1
        cases en with
        | true =>
          go_wp2_with fail
          refine (HE.out _).mono ?_
          rintro e2 w2 ⟨rfl, hb2⟩
          have H2 := Lib.hid (below_then HX.out.2.1 HX.out.2.1.size hb2)
          clear hb2 p0 p1 p2 p3 yc
          go_wp2_with fail
          go_roundg (m - (j + 1))
          case measure => have := HX.out.1; omega
          case rel => exact ⟨j + 1, q + 1, by have := HX.out.1; omega, by go_num, rfl, H2.out, by rw [HV.out.1]; rfl, HV.out.2⟩
        | false =>
          have hrt : r = true := by rw [HV.out.1]; rfl
          have HRT := Lib.hid hrt
          clear hrt
          go_wp2_with fail
          refine (HE.out _).mono ?_
          rintro e2 w2 ⟨rfl, hb2⟩
          have H2 := Lib.hid (below_then HX.out.2.1 HX.out.2.1.size hb2)
          clear hb2 p0 p1 p2 p3 yc
          go_wp2_with fail
          go_ret
          exact ⟨ret_bool HRT.out.symm, H2.out⟩
      · have hdr : cs.drop (j + 1) = [] := List.drop_of_length_le (by have := H.out.2.2.2.1; omega)
        have hone : flOne L (q + 1) (cs.drop (j + 1)) = false := by rw [hdr]; rfl
        rw [hone, Bool.false_or] at hfs
        have g1 : decide ((j : Int) < (m : Int) - 1) = false := decide_eq_false (by omega)
        have g1' : ¬ (j : Int) < (m : Int) - 1 := by omega
        have HV := Lib.hid (And.intro hfs hsm)
        clear x0 x1 x2 x3 x4 up hf okf hr1 hk hc hsd hfs yc0 hcell hblkB hsm hen hdr hone hq p0 p1 p2 p3
        go_wp2_with fail
        go_roundg (m - (j + 1))
        case measure => have := HX.out.1; omega
        case rel => exact ⟨j + 1, q + 1, by have := HX.out.1; omega, by go_num, rfl, HX.out.2.1, HV.out.1.symm, HV.out.2⟩
    · obtain rfl : j = m := by have := HX.out.1; omega
      have hge : ¬ (j : Int) < (j : Int) := by omega
      have ho := HX.out.2.2.1
      rw [List.drop_of_length_le (by have := H.out.2.2.2.1; omega)] at ho
      have HO := Lib.hid ho
      clear ho
      go_wp2_with fail
      go_ret
      exact ⟨ret_bool HO.out, HX.out.2.1⟩
end Go.Proofs.Ytlioclicopakbaa
