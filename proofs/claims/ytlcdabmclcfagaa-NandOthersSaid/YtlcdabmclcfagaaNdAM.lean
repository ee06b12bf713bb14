import Derived.Laws.Rows
import Derived.Laws.ResultCell
import Derived.Lib.SliceRun
import Derived.Deep.QuietTactic
import Derived.BigQuiet
import Derived.Test.YtlcdabmclcfagaaNdMM
set_option linter.unusedVariables false
set_option linter.unusedSimpArgs false
/- Layer 3: off, ask, page, Geo, Deeds, Bad: contracts. -/
namespace Go.Proofs.Ytlcdabmclcfagaa
open Go.RowKit

set_option maxRecDepth 100000 in
set_option maxHeartbeats 400000 in
theorem off_cell (w : World) (a : Nat) (A : Option Addr) (n d : Nat) (h4 : w.cell? ⟨a, 4, none⟩ = some (.slice A n d)) :
    Calls Try.prog 41 #[.pointer (some ⟨a, 0, none⟩)] w fun e w' => e = .returned (.bool A.isNone) ∧ w' = w := by
  go_enter Try.func41, Try.ntmps41
  go_wp2_with fail
  rw [Lib.run_eql_slice_nil w 63 22 _ _ _ _ _ Try.underlying63]
  go_wp2_with fail
  go_ret
  exact ⟨rfl, rfl⟩
theorem off_pc {w : World} {F : Nat → Prop} {a : Nat} {L : Lay} {c : Chp} (h : PCx w F a L c) :
    Calls Try.prog 41 #[.pointer (some ⟨a, 0, none⟩)] w fun e w' => e = .returned (.bool false) ∧ w' = w := off_cell w a _ _ _ h.cells.2.2.2.2.1
theorem off_nil (w : World) :
    Calls Try.prog 41 #[.pointer none] w fun e w' => e = .returned (.bool true) ∧ w' = w := by
  go_enter Try.func41, Try.ntmps41
  go_wp2_with fail
  go_ret
  exact ⟨rfl, rfl⟩

set_option maxRecDepth 100000 in
set_option maxHeartbeats 400000 in
theorem ask_pc {w : World} {F : Nat → Prop} {a : Nat} {L : Lay} {c : Chp} (h : PCx w F a L c) (b p : Int) :
    Calls Try.prog 35 #[.pointer (some ⟨a, 0, none⟩), .int .i64 b, .int .i64 p] w fun e w' => e = .returned (.int .i64 (askS c b p : Nat)) ∧ w' = w := by
  obtain ⟨c0, c1, c2, c3, c4, c5, c6, c7, c8, c9⟩ := h.cells
  have HO := Lib.hid (off_pc h)
  clear c2 c3 c4 c5 c6 c7 c9
  have hr : (c.dead = true → askS c b p = 10) ∧ (c.dead = false → (0 ≤ b ∧ b < (c.B : Int) ∧ 0 ≤ p ∧ p < (c.P : Int)) → askS c b p = 0) ∧ (c.dead = false → ¬ (0 ≤ b ∧ b < (c.B : Int) ∧ 0 ≤ p ∧ p < (c.P : Int)) → askS c b p = 2) := by
    unfold askS
    refine ⟨fun h => if_pos h, fun h1 h2 => ?_, fun h1 h2 => ?_⟩
    · rw [if_neg (by rw [h1]; simp)]
      exact if_pos h2
    · rw [if_neg (by rw [h1]; simp)]
      exact if_neg h2
  generalize askS c b p = r at *
  clear h
  obtain ⟨dd, hd⟩ : ∃ dd, c.dead = dd := ⟨_, rfl⟩
  rw [hd] at c8 hr
  generalize c.B = B at *
  generalize c.P = P at *
  clear hd
  cases dd with
  | true =>
    have hrr := hr.1 rfl
    subst hrr
    clear hr
    go_enter Try.func35, Try.ntmps35
    go_wp2_with (go_at_call 41; refine HO.out.mono ?_; rintro e w1 ⟨rfl, rfl⟩)
    go_ret
    exact ⟨rfl, rfl⟩
  | false =>
    have HR := Lib.hid (And.intro (hr.2.1 rfl) (hr.2.2 rfl))
    clear hr
    have hcase : b < 0 ∨ (0 ≤ b ∧ (B : Int) ≤ b) ∨ (0 ≤ b ∧ b < (B : Int) ∧ p < 0) ∨ (0 ≤ b ∧ b < (B : Int) ∧ 0 ≤ p ∧ (P : Int) ≤ p) ∨ (0 ≤ b ∧ b < (B : Int) ∧ 0 ≤ p ∧ p < (P : Int)) := by omega
    rcases hcase with h1 | ⟨h1, h2⟩ | ⟨h1, h2, h3⟩ | ⟨h1, h2, h3, h4⟩ | ⟨h1, h2, h3, h4⟩
    · have hrr : r = 2 := HR.out.2 (by omega)
      subst hrr
      have t1 : decide (b < 0) = true := decide_eq_true h1
      go_enter Try.func35, Try.ntmps35
      go_wp2_with (go_at_call 41; refine HO.out.mono ?_; rintro e w1 ⟨rfl, rfl⟩)
      go_ret
      exact ⟨rfl, rfl⟩
    · have hrr : r = 2 := HR.out.2 (by omega)
      subst hrr
      have t1 : decide (b < 0) = false := decide_eq_false (by omega)
      have t2 : decide ((B : Int) ≤ b) = true := decide_eq_true h2
      go_enter Try.func35, Try.ntmps35
      go_wp2_with (go_at_call 41; refine HO.out.mono ?_; rintro e w1 ⟨rfl, rfl⟩)
      go_ret
      exact ⟨rfl, rfl⟩
    · have hrr : r = 2 := HR.out.2 (by omega)
      subst hrr
      have t1 : decide (b < 0) = false := decide_eq_false (by omega)
      have t2 : decide ((B : Int) ≤ b) = false := decide_eq_false (by omega)
      have t3 : decide (p < 0) = true := decide_eq_true h3
      go_enter Try.func35, Try.ntmps35
      go_wp2_with (go_at_call 41; refine HO.out.mono ?_; rintro e w1 ⟨rfl, rfl⟩)
      go_ret
      exact ⟨rfl, rfl⟩
    · have hrr : r = 2 := HR.out.2 (by omega)
      subst hrr
      have t1 : decide (b < 0) = false := decide_eq_false (by omega)
      have t2 : decide ((B : Int) ≤ b) = false := decide_eq_false (by omega)
      have t3 : decide (p < 0) = false := decide_eq_false (by omega)
      have t4 : decide ((P : Int) ≤ p) = true := decide_eq_true h4
      go_enter Try.func35, Try.ntmps35
      go_wp2_with (go_at_call 41; refine HO.out.mono ?_; rintro e w1 ⟨rfl, rfl⟩)
      go_ret
      exact ⟨rfl, rfl⟩
    · have hrr : r = 0 := HR.out.1 ⟨h1, h2, h3, h4⟩
      subst hrr
      have t1 : decide (b < 0) = false := decide_eq_false (by omega)
      have t2 : decide ((B : Int) ≤ b) = false := decide_eq_false (by omega)
      have t3 : decide (p < 0) = false := decide_eq_false (by omega)
      have t4 : decide ((P : Int) ≤ p) = false := decide_eq_false (by omega)
      go_enter Try.func35, Try.ntmps35
      go_wp2_with (go_at_call 41; refine HO.out.mono ?_; rintro e w1 ⟨rfl, rfl⟩)
      go_ret
      exact ⟨rfl, rfl⟩

set_option maxRecDepth 100000 in
set_option maxHeartbeats 400000 in
theorem page_pc {w : World} {F : Nat → Prop} {a : Nat} {L : Lay} {c : Chp} (h : PCx w F a L c) {b p : Nat} (hb : b < c.B) (hp : p < c.P) :
    Calls Try.prog 38 #[.pointer (some ⟨a, 0, none⟩), .int .i64 (b : Int), .int .i64 (p : Int)] w fun e w' => e = .returned (.slice (some ⟨L.kr b, p * c.S, none⟩) c.S c.S) ∧ Drawn w w' := by
  obtain ⟨c0, c1, c2, c3, c4, c5, c6, c7, c8, c9⟩ := h.cells
  have y0 := h.kb b hb
  have hN := h.ok.n
  obtain ⟨e1, e2, e3⟩ := h.ok.page_end hb hp
  have hcb := h.cb
  have hct := h.ct b hb
  have hS1 := h.ok.s1
  have hS2 := h.ok.s2
  have hP2 := h.ok.p2
  have hb2 := h.ok.b2
  generalize hT : c.N + (L.tl b).length = T at *
  clear c0 c1 c3 c5 c6 c7 c8 c9
  generalize c.N = N at *
  generalize c.S = S at *
  generalize c.B = B at *
  have hbB : (b : Int) < (B : Int) := by omega
  have hpS : p * S ≤ 8192 := by omega
  have hmul : ((p : Int) * (S : Int)) = ((p * S : Nat) : Int) := by simp
  have hmul2 : (((p : Int) + 1) * (S : Int)) = ((p * S + S : Nat) : Int) := by rw [Int.add_mul]; simp
  have hw0 : IntKind.i64.wrap ((p : Int) + 1) = (p : Int) + 1 := IntWalk.i64_in _ (by omega)
  have hw1 : IntKind.i64.wrap ((p : Int) * (S : Int)) = ((p * S : Nat) : Int) := by rw [hmul]; exact IntWalk.i64_in _ (by omega)
  have hw2 : IntKind.i64.wrap (((p : Int) + 1) * (S : Int)) = ((p * S + S : Nat) : Int) := by rw [hmul2]; exact IntWalk.i64_in _ (by omega)
  generalize p * S = Q at *
  clear h hmul hmul2
  have g1 : (0 : Int) ≤ (Q : Int) := by omega
  have g2 : (Q : Int) ≤ ((Q + S : Nat) : Int) := by omega
  have g3 : ((Q + S : Nat) : Int) ≤ (T : Int) := by omega
  go_enter Try.func38, Try.ntmps38
  go_wp2_with fail
  go_quiet (fail)
  go_wp2_with fail
  go_ret
  rw [Nat.add_sub_cancel_left]
  exact ⟨rfl, Drawn.mk _ _⟩

set_option maxRecDepth 100000 in
set_option maxHeartbeats 400000 in
theorem deeds_pc {w : World} {F : Nat → Prop} {a : Nat} {L : Lay} {c : Chp} (h : PCx w F a L c) :
    Calls Try.prog 24 #[.pointer (some ⟨a, 0, none⟩)] w fun e w' => e = .returned (.int .i64 c.deeds) ∧ w' = w := by
  obtain ⟨c0, c1, c2, c3, c4, c5, c6, c7, c8, c9⟩ := h.cells
  have HO := Lib.hid (off_pc h)
  clear c0 c1 c2 c3 c4 c5 c6 c7 c8 h
  go_enter Try.func24, Try.ntmps24
  go_wp2_with (go_at_call 41; refine HO.out.mono ?_; rintro e w1 ⟨rfl, rfl⟩)
  go_ret
  exact ⟨rfl, rfl⟩
theorem deeds_off (w : World) (A : Option Addr) (h : Calls Try.prog 41 #[.pointer A] w fun e w' => e = .returned (.bool true) ∧ w' = w) :
    Calls Try.prog 24 #[.pointer A] w fun e w' => e = .returned (.int .i64 0) ∧ w' = w := by
  have HO := Lib.hid h
  clear h
  go_enter Try.func24, Try.ntmps24
  go_wp2_with (go_at_call 41; refine HO.out.mono ?_; rintro e w1 ⟨rfl, rfl⟩)
  go_ret
  exact ⟨rfl, rfl⟩

theorem post_cell1 {P : Program} {fn : Func} {p : Tmp} {ty : TypeId} (h : fn.results = #[.cell p ty]) {d : TypeDesc} (hu : P.underlying ty = some d) (hd : (match d with | .struct _ | .array _ _ => true | _ => false) = true)
    {Q : Ending → World → Prop} {tmps : Array Value} {w : World} {g : Nat} {t : TypeId} (cs : Array Value) (hp : tmps.getD p undef = .pointer (some ⟨g, 0, none⟩)) (hg : w.heap[g]? = some (.cells cs t (0, 0)))
    (hi : (P.info? ty).map (·.size) = some cs.size) (hQ : Q (.returned (.agg cs)) w) : bodyPost P fn Q .ret { tmps := tmps, defers := [] } w :=
  bodyPost_ret (v := .agg cs) (results_cell_row h tmps w g t cs (0, 0) d hp hg hu hd hi) rfl hQ
def geoV (c : Chp) : Value := .agg #[.int .i64 (c.B : Int), .int .i64 (c.P : Int), .int .i64 (c.S : Int), .int .i64 (c.Sp : Int)]
set_option maxRecDepth 100000 in
set_option maxHeartbeats 400000 in
theorem geo_pc {w : World} {F : Nat → Prop} {a : Nat} {L : Lay} {c : Chp} (h : PCx w F a L c) :
    Calls Try.prog 31 #[.pointer (some ⟨a, 0, none⟩)] w fun e w' => e = .returned (geoV c) ∧ Below w.heap.size w w' := by
  have hb := (Below.refl w.heap.size w).alloc (Nat.le_refl _) (.cells #[.int .i64 0, .int .i64 0, .int .i64 0, .int .i64 0] 28)
  have h1 := h.below hb
  obtain ⟨c0, c1, c2, c3, c4, c5, c6, c7, c8, c9⟩ := h1.cells
  have HO := Lib.hid (off_pc h1)
  have HB := Lib.hid (And.intro hb (Blk.new w 28 #[.int .i64 0, .int .i64 0, .int .i64 0, .int .i64 0]))
  clear c4 c5 c6 c7 c8 c9 h h1 hb
  unfold geoV
  go_enter Try.func31, Try.ntmps31
  go_wp2_with (go_at_call 41; refine HO.out.mono ?_; rintro e w1 ⟨rfl, rfl⟩)
  refine post_cell1 Try.results31 Try.underlying28 rfl _ rfl (Blk.new w 28 _) (by kernel_rfl) ?_
  exact ⟨rfl, (Below.refl _ _).alloc (Nat.le_refl _) _⟩
theorem geo_off (w : World) (A : Option Addr) (h : ∀ w', Below w.heap.size w w' → Calls Try.prog 41 #[.pointer A] w' fun e w2 => e = .returned (.bool true) ∧ w2 = w') :
    Calls Try.prog 31 #[.pointer A] w fun e w' => e = .returned (.agg #[.int .i64 0, .int .i64 0, .int .i64 0, .int .i64 0]) ∧ Below w.heap.size w w' := by
  have HO := Lib.hid (h _ ((Below.refl w.heap.size w).alloc (Nat.le_refl _) (.cells #[.int .i64 0, .int .i64 0, .int .i64 0, .int .i64 0] 28)))
  clear h
  go_enter Try.func31, Try.ntmps31
  go_wp2_with (go_at_call 41; refine HO.out.mono ?_; rintro e w1 ⟨rfl, rfl⟩)
  refine post_cell1 Try.results31 Try.underlying28 rfl _ rfl (Blk.new w 28 _) (by kernel_rfl) ?_
  exact ⟨rfl, (Below.refl _ _).alloc (Nat.le_refl _) _⟩

def badS (c : Chp) (b : Int) : Bool := if 0 ≤ b ∧ b < c.B then (c.bad[b.toNat]?).getD false else false
set_option maxRecDepth 100000 in
set_option maxHeartbeats 400000 in
theorem bad_pc {w : World} {F : Nat → Prop} {a : Nat} {L : Lay} {c : Chp} (h : PCx w F a L c) (b : Int) :
    Calls Try.prog 17 #[.pointer (some ⟨a, 0, none⟩), .int .i64 b] w fun e w' => e = .returned (.bool (badS c b)) ∧ w' = w := by
  obtain ⟨c0, c1, c2, c3, c4, c5, c6, c7, c8, c9⟩ := h.cells
  have HO := Lib.hid (off_pc h)
  have hcd := h.cd
  clear c1 c2 c3 c4 c6 c7 c8 c9
  unfold badS
  have hcase : b < 0 ∨ (0 ≤ b ∧ (c.B : Int) ≤ b) ∨ (0 ≤ b ∧ b < (c.B : Int)) := by omega
  rcases hcase with h1 | ⟨h1, h2⟩ | ⟨h1, h2⟩
  · rw [if_neg (by omega)]
    have t1 : decide (0 ≤ b) = false := decide_eq_false (by omega)
    clear h hcd
    go_enter Try.func17, Try.ntmps17
    go_wp2_with (go_at_call 41; refine HO.out.mono ?_; rintro e w1 ⟨rfl, rfl⟩)
    go_ret
    exact ⟨rfl, rfl⟩
  · rw [if_neg (by omega)]
    have t1 : decide (0 ≤ b) = true := decide_eq_true (by omega)
    have t2 : decide (b < (c.B : Int)) = false := decide_eq_false (by omega)
    clear h hcd
    go_enter Try.func17, Try.ntmps17
    go_wp2_with (go_at_call 41; refine HO.out.mono ?_; rintro e w1 ⟨rfl, rfl⟩)
    go_ret
    exact ⟨rfl, rfl⟩
  · rw [if_pos ⟨h1, h2⟩]
    obtain ⟨q, rfl⟩ : ∃ q : Nat, b = (q : Int) := ⟨b.toNat, by omega⟩
    obtain ⟨x, hx, y0⟩ := h.badAt (b := q) (by omega)
    have hr : (c.bad[(q : Int).toNat]?).getD false = x := by
      rw [Int.toNat_natCast, hx]
      rfl
    rw [hr]
    generalize c.B = B at *
    have t1 : decide (0 ≤ (q : Int)) = true := decide_eq_true (by omega)
    have t2 : decide ((q : Int) < (B : Int)) = true := decide_eq_true (by omega)
    clear h hx hr hcd
    go_enter Try.func17, Try.ntmps17
    go_wp2_with (go_at_call 41; refine HO.out.mono ?_; rintro e w1 ⟨rfl, rfl⟩)
    go_ret
    exact ⟨rfl, rfl⟩
theorem bad_off (w : World) (A : Option Addr) (b : Int) (h : Calls Try.prog 41 #[.pointer A] w fun e w' => e = .returned (.bool true) ∧ w' = w) :
    Calls Try.prog 17 #[.pointer A, .int .i64 b] w fun e w' => e = .returned (.bool false) ∧ w' = w := by
  have HO := Lib.hid h
  clear h
  go_enter Try.func17, Try.ntmps17
  go_wp2_with (go_at_call 41; refine HO.out.mono ?_; rintro e w1 ⟨rfl, rfl⟩)
  go_ret
  exact ⟨rfl, rfl⟩
theorem ask_off (w : World) (A : Option Addr) (b p : Int) (h : Calls Try.prog 41 #[.pointer A] w fun e w' => e = .returned (.bool true) ∧ w' = w) :
    Calls Try.prog 35 #[.pointer A, .int .i64 b, .int .i64 p] w fun e w' => e = .returned (.int .i64 1) ∧ w' = w := by
  have HO := Lib.hid h
  clear h
  go_enter Try.func35, Try.ntmps35
  go_wp2_with (go_at_call 41; refine HO.out.mono ?_; rintro e w1 ⟨rfl, rfl⟩)
  go_ret
  exact ⟨rfl, rfl⟩
end Go.Proofs.Ytlcdabmclcfagaa
