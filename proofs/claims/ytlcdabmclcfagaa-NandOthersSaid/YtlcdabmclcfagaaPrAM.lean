import Derived.Test.YtlcdabmclcfagaaRfPM
import Derived.Test.YtlcdabmclcfagaaMRf
import Derived.Test.YtlcdabmclcfagaaRfHM
import Derived.Test.YtlcdabmclcfagaaActBM
set_option linter.unusedVariables false
set_option linter.unusedSimpArgs false
/- A chip and the document's one, that are one; what is done to both. -/
namespace Go.Proofs.Ytlcdabmclcfagaa
open Go.RowKit

structure PairX (w : World) (base pb a r : Nat) (F F' : Nat → Prop) (c : Chp) : Prop where
  pc : PC w F a c
  rc : RC w F' r c
  p : Blk w pb 52 #[.pointer (some ⟨a, 0, none⟩), .pointer (some ⟨r, 0, none⟩)]
  fb : ∀ k, F k → base ≤ k
  rb : ∀ k, F' k → base ≤ k
  pf : ¬ F pb
  pr : ¬ F' pb
  dj : ∀ k, F k → ¬ F' k
  p0 : base ≤ pb
  mks : ∀ x ∈ c.hits, x.mask.length ≤ 140737488351232
def PairS (w : World) (base pb : Nat) (c : Chp) : Prop := ∃ a r F F', PairX w base pb a r F F' c
def PactEnd (w : World) (base pb : Nat) (c : Chp) (e : Ending) (w' : World) : Prop := e = .returned (.bool true) ∧ PairS w' base pb c ∧ Below base w w'
structure ActIn (w : World) (base : Nat) (x : Ac) (Ab Ah : Option Addr) : Prop where
  rb : RV w Ab (bv x.bytes)
  lb : ∀ ad, Ab = some ad → 0 < x.bytes.length → ad.block < base
  mb : x.bytes.length ≤ 140737488355328
  hp : HitsP w (fun k => k < base) Ah x.hits
  hm : x.hits.length * 40 ≤ 140737488351232
  hk : ∀ y ∈ x.hits, y.mask.length ≤ 140737488351232
def actS (c : Chp) (x : Ac) : Chp :=
  if x.do_ = 1 then (programS c x.block x.page (bytesS x c.S)).1 else if x.do_ = 2 then (eraseS c x.block).1 else if x.do_ = 4 then (hitsS c x.hits).1 else if x.do_ = 5 then powerS c else c

/-! ### what strikes afterwards -/
theorem strikeS_sub (c : Chp) : ∀ x ∈ (strikeS c).2.hits, x ∈ c.hits := by
  unfold strikeS
  split
  · exact fun x h => h
  · rename_i h r he
    split
    · exact fun x h => h
    · intro x hx
      rw [he]
      exact List.mem_cons_of_mem _ hx
theorem doneS_sub (c : Chp) (b at_ : Nat) (ws : List UInt8) : ∀ x ∈ (doneS c b at_ ws).1.hits, x ∈ c.hits := by
  unfold doneS
  dsimp only
  split
  · exact strikeS_sub c
  · split <;> exact strikeS_sub c
theorem programS_sub (c : Chp) (b p : Int) (ws : List UInt8) : ∀ x ∈ (programS c b p ws).1.hits, x ∈ c.hits := by
  unfold programS
  split
  · exact fun x h => h
  · split
    · exact fun x h => h
    · split
      · exact fun x h => h
      · split
        · exact fun x h => h
        · exact doneS_sub _ _ _ _
theorem eraseS_sub (c : Chp) (b : Int) : ∀ x ∈ (eraseS c b).1.hits, x ∈ c.hits := by
  unfold eraseS
  split
  · exact fun x h => h
  · split
    · exact fun x h => h
    · split
      · exact fun x h => h
      · exact doneS_sub _ _ _ _
theorem doneS_geo (c : Chp) (b at_ : Nat) (ws : List UInt8) : (doneS c b at_ ws).1.B = c.B ∧ (doneS c b at_ ws).1.P = c.P ∧ (doneS c b at_ ws).1.S = c.S ∧ (doneS c b at_ ws).1.Sp = c.Sp := by
  have h := strikeS_same c
  unfold doneS
  dsimp only
  split
  · exact ⟨h.1, h.2.1, h.2.2.1, h.2.2.2.1⟩
  · split <;> exact ⟨h.1, h.2.1, h.2.2.1, h.2.2.2.1⟩
theorem programS_geo (c : Chp) (b p : Int) (ws : List UInt8) : (programS c b p ws).1.B = c.B ∧ (programS c b p ws).1.P = c.P ∧ (programS c b p ws).1.S = c.S ∧ (programS c b p ws).1.Sp = c.Sp := by
  unfold programS
  split
  · exact ⟨rfl, rfl, rfl, rfl⟩
  · split
    · exact ⟨rfl, rfl, rfl, rfl⟩
    · split
      · exact ⟨rfl, rfl, rfl, rfl⟩
      · split
        · exact ⟨rfl, rfl, rfl, rfl⟩
        · exact doneS_geo _ _ _ _
theorem eraseS_geo (c : Chp) (b : Int) : (eraseS c b).1.B = c.B ∧ (eraseS c b).1.P = c.P ∧ (eraseS c b).1.S = c.S ∧ (eraseS c b).1.Sp = c.Sp := by
  unfold eraseS
  split
  · exact ⟨rfl, rfl, rfl, rfl⟩
  · split
    · exact ⟨rfl, rfl, rfl, rfl⟩
    · split
      · exact ⟨rfl, rfl, rfl, rfl⟩
      · exact doneS_geo _ _ _ _
theorem hitsS_geo (c : Chp) (l : List Htt) : (hitsS c l).1.B = c.B ∧ (hitsS c l).1.P = c.P ∧ (hitsS c l).1.S = c.S ∧ (hitsS c l).1.Sp = c.Sp := by
  unfold hitsS
  split <;> exact ⟨rfl, rfl, rfl, rfl⟩
theorem actS_geo (c : Chp) (x : Ac) : (actS c x).B = c.B ∧ (actS c x).P = c.P ∧ (actS c x).S = c.S ∧ (actS c x).Sp = c.Sp := by
  unfold actS
  split
  · exact programS_geo _ _ _ _
  · split
    · exact eraseS_geo _ _
    · split
      · exact hitsS_geo _ _
      · split <;> exact ⟨rfl, rfl, rfl, rfl⟩
theorem hitsS_mk (c : Chp) (l : List Htt) (h1 : ∀ x ∈ c.hits, x.mask.length ≤ 140737488351232) (h2 : ∀ x ∈ l, x.mask.length ≤ 140737488351232) : ∀ x ∈ (hitsS c l).1.hits, x.mask.length ≤ 140737488351232 := by
  unfold hitsS
  split
  · exact h1
  · exact h2

section
variable {w w' : World} {base pb a r : Nat} {F F' : Nat → Prop} {c : Chp}
theorem PairX.below (h : PairX w base pb a r F F' c) (hb : Below w.heap.size w w') : PairX w' base pb a r F F' c :=
  ⟨h.pc.below hb, h.rc.below hb, h.p.below hb h.p.lt, h.fb, h.rb, h.pf, h.pr, h.dj, h.p0, h.mks⟩
theorem PairX.na (h : PairX w base pb a r F F' c) : F a := by
  obtain ⟨L, hL⟩ := h.pc
  exact hL.i1.1
theorem PairX.nr (h : PairX w base pb a r F F' c) : F' r := by
  obtain ⟨L, hL⟩ := h.rc
  exact hL.i1.1
theorem PairX.base_le (h : PairX w base pb a r F F' c) : base ≤ w.heap.size := Nat.le_of_lt (Nat.lt_of_le_of_lt h.p0 h.p.lt)
/-- What both do. -/
theorem PairX.deed {w1 w2 w3 : World} {c' : Chp} (h : PairX w base pb a r F F' c) (hb0 : Below w.heap.size w w1) (hp : PC w2 F a c') (ht : Tch F w1 w2) (hr : RC w3 F' r c') (ht' : Tch F' w2 w3) (hm : ∀ x ∈ c'.hits, x ∈ c.hits) : PairS w3 base pb c' ∧ Below base w w3 := by
  have hb1 := (h.below hb0)
  have hp2 : Blk w2 pb _ _ := hb1.p.heap (ht.block _ hb1.p.lt h.pf)
  have hp3 := hp2.heap (ht'.block _ hp2.lt h.pr)
  refine ⟨⟨a, r, F, F', hp.tch ht' h.dj, hr, hp3, h.fb, h.rb, h.pf, h.pr, h.dj, h.p0, fun x hx => h.mks x (hm x hx)⟩, ?_⟩
  have e1 : Below base w w1 := ⟨hb0.os, hb0.tape, hb0.output, hb0.size, fun k hk => hb0.block k (Nat.lt_of_lt_of_le hk h.base_le)⟩
  have e2 := ht.below h.fb hb1.base_le
  have e3 := ht'.below h.rb (Nat.le_trans hb1.base_le ht.size)
  exact ⟨e3.os.trans (e2.os.trans e1.os), e3.tape.trans (e2.tape.trans e1.tape), e3.output.trans (e2.output.trans e1.output), Nat.le_trans e1.size (Nat.le_trans e2.size e3.size), fun k hk => (e3.block k hk).trans ((e2.block k hk).trans (e1.block k hk))⟩
end
section
variable {w w' : World} {base : Nat} {x : Ac} {Ab Ah : Option Addr}
theorem ActIn.belowB (h : ActIn w base x Ab Ah) (hb : Below base w w') (hs : base ≤ w.heap.size) : ActIn w' base x Ab Ah :=
  ⟨h.rb.keep fun ad hA hn => hb.block _ (h.lb ad hA (by rwa [bv_length] at hn)), h.lb, h.mb, h.hp.keep (fun k hk _ => hb.block k hk) (fun k h _ => h), h.hm, h.hk⟩
theorem ActIn.below (h : ActIn w base x Ab Ah) (hb : Below w.heap.size w w') : ActIn w' base x Ab Ah :=
  ⟨h.rb.below hb, h.lb, h.mb, h.hp.keep (fun k _ hlt => hb.block k hlt) (fun k h _ => h), h.hm, h.hk⟩
end
end Go.Proofs.Ytlcdabmclcfagaa
