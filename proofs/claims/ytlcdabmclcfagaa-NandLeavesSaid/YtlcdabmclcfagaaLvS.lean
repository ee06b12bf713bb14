/- Layer 3, plain: what a struck deed leaves on a new chip. -/
import Derived.Test.YtlcdabmclcfagaaNdS
import Derived.Test.YtlcdabmclcfagaaSealL
set_option linter.unusedVariables false
set_option linter.unusedSimpArgs false
namespace Go.Proofs.Ytlcdabmclcfagaa
open Go.RowKit

theorem and255 : ∀ w : UInt8, w &&& 255 = w := fun ⟨⟨w⟩⟩ => by revert w; decide +kernel
theorem and255' : ∀ w : UInt8, (255 : UInt8) &&& w = w := fun ⟨⟨w⟩⟩ => by revert w; decide +kernel
theorem mixB_255 (o w : UInt8) : mixB 255 o w = w := by
  unfold mixB
  rw [show (~~~(255 : UInt8)) = 0 by decide, and255]
  simp
theorem bits_or (o m : UInt8) : (o &&& ~~~m) ||| m = o ||| m := by
  apply UInt8.eq_of_toBitVec_eq
  apply BitVec.eq_of_getLsbD_eq
  intro i hi
  simp [UInt8.toBitVec_or, UInt8.toBitVec_and, UInt8.toBitVec_not, hi]
  generalize o.toBitVec[i] = x
  generalize m.toBitVec[i] = y
  cases x <;> cases y <;> rfl
theorem mixB_up1 (m o : UInt8) : mixB m o 255 = o ||| m := by
  unfold mixB
  rw [and255', bits_or]
theorem mixB_up2 (m w : UInt8) : mixB m 255 w = w ||| ~~~m := by
  unfold mixB
  rw [and255']
  apply UInt8.eq_of_toBitVec_eq
  apply BitVec.eq_of_getLsbD_eq
  intro i hi
  simp [UInt8.toBitVec_or, UInt8.toBitVec_and, UInt8.toBitVec_not, hi]
  generalize w.toBitVec[i] = x
  generalize m.toBitVec[i] = y
  cases x <;> cases y <;> rfl
theorem mixGo_none : ∀ (os ws : List UInt8) (i : Nat), os.length = ws.length → mixGo none i os ws = ws
  | [], [], i, hl => rfl
  | [], w :: ws, i, hl => by simp at hl
  | o :: os, [], i, hl => by simp at hl
  | o :: os, w :: ws, i, hl => by
    rw [mixGo, mixGo_none os ws (i + 1) (by simpa using hl)]
    rw [show maskAt none i = 255 from rfl, mixB_255]
theorem mixL_none {os ws : List UInt8} (hl : os.length = ws.length) : mixL none os ws = ws := mixGo_none os ws 0 hl

theorem seg_spl_in {l m : List UInt8} {a a' n : Nat} (h : a + m.length ≤ l.length) (h1 : a ≤ a') (h2 : a' + n ≤ a + m.length) : seg (spl l a m) a' n = seg m (a' - a) n := by
  apply List.ext_getElem?
  intro i
  by_cases hi : i < n
  · rw [seg_get hi, seg_get hi, spl_get h, if_pos (by omega)]
    congr 1
    omega
  · rw [List.getElem?_eq_none (by unfold seg; rw [List.length_take]; omega), List.getElem?_eq_none (by unfold seg; rw [List.length_take]; omega)]
theorem seg_spl_out {l m : List UInt8} {a a' n : Nat} (h : a + m.length ≤ l.length) (h1 : a + m.length ≤ a') : seg (spl l a m) a' n = seg l a' n := by
  apply List.ext_getElem?
  intro i
  by_cases hi : i < n
  · rw [seg_get hi, seg_get hi, spl_get h, if_neg (by omega)]
  · rw [List.getElem?_eq_none (by unfold seg; rw [List.length_take]; omega), List.getElem?_eq_none (by unfold seg; rw [List.length_take]; omega)]
theorem seg_all (m : List UInt8) : seg m 0 m.length = m := by
  unfold seg
  rw [List.drop_zero, List.take_length]

theorem prog_ok {c : Chp} {b p : Int} {xs : List UInt8} (hd : c.dead = false) (ht : thereS c b p) (hx : xs.length = c.S) (hb : c.bad[b.toNat]? = some false) (hk : blk255 ((c.row b.toNat).drop (p.toNat * c.S))) :
    programS c b p xs = doneS c b.toNat (b.toNat * c.N + p.toNat * c.S) xs := by
  unfold programS
  rw [if_neg (by rw [hd]; simp), if_neg (by rintro (h | h); exact h ht; exact h hx), if_neg (by rw [hb]; simp), if_neg (fun h => h hk)]
theorem erase_ok {c : Chp} {b : Int} (hd : c.dead = false) (ht : thereS c b 0) (hb : c.bad[b.toNat]? = some false) :
    eraseS c b = doneS c b.toNat (b.toNat * c.N) (List.replicate c.N 255) := by
  unfold eraseS
  rw [if_neg (by rw [hd]; simp), if_neg (fun h => h ht), if_neg (by rw [hb]; simp)]
theorem done_none {c : Chp} (hh : c.hits = []) {b a : Nat} {ws : List UInt8} (ha : a + ws.length ≤ c.bytes.length) :
    doneS c b a ws = ({c with deeds := wrap64 (c.deeds + 1), bytes := spl c.bytes a ws}, 0) := by
  unfold doneS strikeS
  rw [hh]
  dsimp only
  rw [mixL_none (seg_len ha)]
/-- What a struck deed leaves. -/
structure Struck (c : Chp) (h : Htt) (b a : Nat) (ws : List UInt8) (r : Chp × Nat) : Prop where
  code : r.2 = if h.fails = true then 9 else 10
  bytes : r.1.bytes = spl c.bytes a (mixL (some h) (seg c.bytes a ws.length) ws)
  bad : r.1.bad = if h.fails = true then c.bad.set b true else c.bad
  B : r.1.B = c.B
  P : r.1.P = c.P
  S : r.1.S = c.S
theorem done_some {c : Chp} {h : Htt} {l : List Htt} (hh : c.hits = h :: l) (hs : ¬ c.since < h.after) {b a : Nat} {ws : List UInt8} : Struck c h b a ws (doneS c b a ws) := by
  unfold doneS strikeS
  rw [hh]
  dsimp only
  rw [if_neg hs]
  dsimp only
  cases hf : h.fails <;> exact ⟨by rw [hf]; rfl, rfl, by rw [hf]; rfl, rfl, rfl, rfl⟩

theorem read_ok {c : Chp} {b p : Int} (hd : c.dead = false) (ht : thereS c b p) : readS c b p = (seg c.bytes (b.toNat * c.N + p.toNat * c.S) c.S, 0) := by
  have h : askS c b p = 0 := by
    unfold askS
    rw [if_neg (by rw [hd]; simp), if_pos ht]
  unfold readS
  rw [if_neg (fun hh => hh h)]
/-- A chip of the small geometry. -/
structure Sm (c : Chp) : Prop where
  B : c.B = 8
  P : c.P = 4
  S : c.S = 128
theorem Sm.N {c : Chp} (h : Sm c) : c.N = 512 := by unfold Chp.N; rw [h.P, h.S]
theorem Sm.there {c : Chp} (h : Sm c) {b p : Nat} (hb : b < 8) (hp : p < 4) : thereS c (b : Int) (p : Int) := by
  unfold thereS
  rw [h.B, h.P]
  omega
def n0 : Chp := newS 8 4 128 0
def n1 (w : List UInt8) : Chp := (programS n0 3 1 w).1
def n2 (w mask : List UInt8) (fl : Bool) : Chp := (hitsS (n1 w) [⟨0, fl, mask⟩]).1
def f4 : List UInt8 := List.replicate 4096 255
theorem f4_len : f4.length = 4096 := List.length_replicate
theorem n0_sm : Sm n0 := ⟨rfl, rfl, rfl⟩
theorem n0_bytes : n0.bytes = f4 := rfl
theorem n1_ok {w : List UInt8} (hw : w.length = 128) : programS n0 3 1 w = ({n0 with deeds := wrap64 (n0.deeds + 1), bytes := spl n0.bytes 1664 w}, 0) := by
  have h1 : programS n0 3 1 w = doneS n0 (3 : Int).toNat ((3 : Int).toNat * n0.N + (1 : Int).toNat * n0.S) w := by
    refine prog_ok rfl (n0_sm.there (b := 3) (p := 1) (by decide) (by decide)) hw rfl ?_
    rw [show n0.row (3 : Int).toNat = List.replicate 512 255 by decide +kernel]
    rw [List.drop_replicate]
    intro x hx
    exact (List.mem_replicate.1 hx).2
  rw [n0_sm.N, n0_sm.S] at h1
  have h2 : programS n0 3 1 w = doneS n0 3 1664 w := h1
  rw [h2]
  exact done_none rfl (by rw [hw, n0_bytes, f4_len]; decide)
/-- The new chip behind the first program (and the hits). -/
structure Nn (w : List UInt8) (hits : List Htt) (c : Chp) : Prop where
  sm : Sm c
  dead : c.dead = false
  bad : c.bad = List.replicate 8 false
  hits : c.hits = hits
  bytes : c.bytes = spl f4 1664 w
theorem n1_nn {w : List UInt8} (hw : w.length = 128) : Nn w [] (n1 w) := by
  unfold n1
  rw [n1_ok hw]
  exact ⟨⟨rfl, rfl, rfl⟩, rfl, rfl, rfl, rfl⟩
theorem n1_code {w : List UInt8} (hw : w.length = 128) : (programS n0 3 1 w).2 = 0 := by rw [n1_ok hw]
theorem len4 {w : List UInt8} (hw : w.length = 128) : 1664 + w.length ≤ f4.length := by rw [f4_len, hw]; decide
theorem n1_read {w : List UInt8} (hw : w.length = 128) : readS (n1 w) 3 1 = (w, 0) := by
  have h := n1_nn hw
  rw [read_ok (b := 3) (p := 1) h.dead (h.sm.there (b := 3) (p := 1) (by decide) (by decide)), h.sm.N, h.sm.S, h.bytes]
  have e : seg (spl f4 1664 w) 1664 128 = w := by
    rw [seg_spl_in (len4 hw) (Nat.le_refl _) (Nat.le_of_eq (by rw [hw])), ← hw]
    exact seg_all w
  exact congrArg (fun x => (x, 0)) e
theorem n2_code (c : Chp) (mask : List UInt8) (fl : Bool) : hitsS c [⟨0, fl, mask⟩] = ({c with hits := [⟨0, fl, mask⟩], since := 0}, 0) := rfl
theorem n2_nn {w mask : List UInt8} {fl : Bool} (hw : w.length = 128) : Nn w [⟨0, fl, mask⟩] (n2 w mask fl) ∧ (n2 w mask fl).since = 0 := by
  have h := n1_nn hw
  unfold n2
  rw [n2_code]
  exact ⟨⟨⟨h.sm.B, h.sm.P, h.sm.S⟩, h.dead, h.bad, rfl, h.bytes⟩, rfl⟩
/-- What both deeds leave: at a page of the block 3. -/
structure Leaves (w : List UInt8) (fl : Bool) (pg : Nat) (r : Chp × Nat) : Prop where
  code : r.2 = if fl = true then 9 else 10
  B : r.1.B = 8
  bad : r.1.bad[3]? = some fl
  left : ∃ l, readS (powerS r.1) 3 (pg : Int) = (l, 0) ∧ Up w l
theorem erase_leaves {w mask : List UInt8} {fl : Bool} (hw : w.length = 128) : Leaves w fl 1 (eraseS (n2 w mask fl) 3) := by
  obtain ⟨h, hs⟩ := n2_nn (mask := mask) (fl := fl) hw
  generalize n2 w mask fl = c at *
  rw [erase_ok (b := 3) h.dead (h.sm.there (b := 3) (p := 0) (by decide) (by decide)) (by rw [h.bad]; rfl), h.sm.N]
  have k := done_some h.hits (by rw [hs]; exact Int.lt_irrefl 0) (b := (3 : Int).toNat) (a := (3 : Int).toNat * 512) (ws := List.replicate 512 255)
  generalize doneS c _ _ _ = r at k
  have kb := k.bytes
  rw [List.length_replicate] at kb
  refine ⟨k.code, k.B.trans h.sm.B, ?_, ?_⟩
  · rw [k.bad, h.bad]
    cases fl <;> rfl
  have sm : Sm (powerS r.1) := ⟨k.B.trans h.sm.B, k.P.trans h.sm.P, k.S.trans h.sm.S⟩
  refine ⟨_, read_ok rfl (sm.there (b := 3) (p := 1) (by decide) (by decide)), ?_⟩
  rw [sm.N, sm.S]
  show Up w (seg r.1.bytes 1664 128)
  rw [kb, h.bytes]
  have hl : (spl f4 1664 w).length = 4096 := by rw [spl_len (len4 hw), f4_len]
  have hsl : (seg (spl f4 1664 w) 1536 512).length = (List.replicate 512 (255 : UInt8)).length := by rw [seg_len (by rw [hl]; decide), List.length_replicate]
  have hml : (mixL (some ⟨0, fl, mask⟩) (seg (spl f4 1664 w) 1536 512) (List.replicate 512 255)).length = 512 := by rw [mixL_len hsl, hsl, List.length_replicate]
  show Up w (seg (spl (spl f4 1664 w) 1536 (mixL (some ⟨0, fl, mask⟩) (seg (spl f4 1664 w) 1536 512) (List.replicate 512 255))) 1664 128)
  rw [seg_spl_in (by rw [hml, hl]; decide) (by decide) (by rw [hml]; decide)]
  refine ⟨by rw [hw, seg_len (by rw [hml]; decide)], fun i a b ha hb => ?_⟩
  have hi : i < 128 := by rw [← hw]; exact (List.getElem?_eq_some_iff.1 ha).1
  rw [seg_get hi] at hb
  have ho : (seg (spl f4 1664 w) 1536 512)[1664 - 1536 + i]? = some a := by
    rw [seg_get (by omega), spl_get (len4 hw), if_pos (by rw [hw]; omega), show 1536 + (1664 - 1536 + i) - 1664 = i by omega]
    exact ha
  have hx : (List.replicate 512 (255 : UInt8))[1664 - 1536 + i]? = some 255 := by
    rw [List.getElem?_replicate, if_pos (by omega)]
  rw [mixL_get ho hx, mixB_up1] at hb
  exact ⟨_, (Option.some.inj hb).symm⟩
theorem prog_leaves {w mask : List UInt8} {fl : Bool} (hw : w.length = 128) : Leaves w fl 2 (programS (n2 w mask fl) 3 2 w) := by
  obtain ⟨h, hs⟩ := n2_nn (mask := mask) (fl := fl) hw
  generalize n2 w mask fl = c at *
  have hl : (spl f4 1664 w).length = 4096 := by rw [spl_len (len4 hw), f4_len]
  have hff : ∀ i, 1792 ≤ i → i < 4096 → (spl f4 1664 w)[i]? = some 255 := by
    intro i h1 h2
    rw [spl_get (len4 hw), if_neg (by rw [hw]; omega)]
    unfold f4
    rw [List.getElem?_replicate, if_pos h2]
  have hbl : blk255 ((c.row (3 : Int).toNat).drop ((2 : Int).toNat * c.S)) := by
    intro x hx
    unfold Chp.row at hx
    rw [h.sm.N, h.sm.S, h.bytes] at hx
    obtain ⟨i, hi⟩ := List.mem_iff_getElem?.1 hx
    rw [List.getElem?_drop, List.getElem?_take] at hi
    split at hi
    · rename_i hlt
      rw [List.getElem?_drop, hff _ (by show 1792 ≤ 3 * 512 + (2 * 128 + i); omega) (by show 3 * 512 + (2 * 128 + i) < 4096; have : 2 * 128 + i < 512 := hlt; omega)] at hi
      exact (Option.some.inj hi).symm
    · simp at hi
  rw [prog_ok (b := 3) (p := 2) h.dead (h.sm.there (b := 3) (p := 2) (by decide) (by decide)) (by rw [hw, h.sm.S]) (by rw [h.bad]; rfl) hbl, h.sm.N, h.sm.S]
  have k := done_some h.hits (by rw [hs]; exact Int.lt_irrefl 0) (b := (3 : Int).toNat) (a := (3 : Int).toNat * 512 + (2 : Int).toNat * 128) (ws := w)
  generalize doneS c _ _ _ = r at k
  have kb := k.bytes
  rw [hw] at kb
  refine ⟨k.code, k.B.trans h.sm.B, ?_, ?_⟩
  · rw [k.bad, h.bad]
    cases fl <;> rfl
  have sm : Sm (powerS r.1) := ⟨k.B.trans h.sm.B, k.P.trans h.sm.P, k.S.trans h.sm.S⟩
  refine ⟨_, read_ok rfl (sm.there (b := 3) (p := 2) (by decide) (by decide)), ?_⟩
  rw [sm.N, sm.S]
  show Up w (seg r.1.bytes 1792 128)
  rw [kb, h.bytes]
  have hsl : (seg (spl f4 1664 w) 1792 128).length = w.length := by rw [seg_len (by rw [hl]; decide), hw]
  have hml : (mixL (some ⟨0, fl, mask⟩) (seg (spl f4 1664 w) 1792 128) w).length = 128 := by rw [mixL_len hsl, hsl, hw]
  show Up w (seg (spl (spl f4 1664 w) 1792 (mixL (some ⟨0, fl, mask⟩) (seg (spl f4 1664 w) 1792 128) w)) 1792 128)
  rw [seg_spl_in (by rw [hml, hl]; decide) (by decide) (by rw [hml]; decide)]
  refine ⟨by rw [hw, seg_len (by rw [hml]; decide)], fun i a b ha hb => ?_⟩
  have hi : i < 128 := by rw [← hw]; exact (List.getElem?_eq_some_iff.1 ha).1
  rw [seg_get hi] at hb
  have ho : (seg (spl f4 1664 w) 1792 128)[1792 - 1792 + i]? = some 255 := by
    rw [seg_get (by omega)]
    exact hff _ (by omega) (by omega)
  have hx : w[1792 - 1792 + i]? = some a := by
    rw [show 1792 - 1792 + i = i by omega]
    exact ha
  rw [mixL_get ho hx, mixB_up2] at hb
  exact ⟨_, (Option.some.inj hb).symm⟩
theorem up_less {w l : List UInt8} (h : Up w l) : l = w ∨ lessS l w := by
  by_cases he : l = w
  · exact .inl he
  · exact .inr ⟨h, he⟩
end Go.Proofs.Ytlcdabmclcfagaa
