import Derived.Test.YtlcdabmclcfagaaNdAM
import Derived.Test.YtlcdabmclcfagaaNdClM
import Derived.Test.YtlcdabmclcfagaaConcM
import Derived.Test.YtlcdabmclcfagaaCopyBM
set_option linter.unusedVariables false
set_option linter.unusedSimpArgs false
/- Layer 3: Read, Bytes: contracts. -/
namespace Go.Proofs.Ytlcdabmclcfagaa
open Go.RowKit

theorem row_seg {c : Chp} (h : ChOk c) {b off n : Nat} (hb : b < c.B) (ho : off + n ≤ c.N) : seg (c.row b) off n = seg c.bytes (b * c.N + off) n := by
  have e1 := h.row_end hb
  have hl := h.row_len hb
  apply List.ext_getElem?
  intro i
  by_cases hi : i < n
  · rw [seg_get hi, seg_get hi]
    unfold Chp.row
    rw [List.getElem?_take, if_pos (by omega), List.getElem?_drop]
    congr 1
    omega
  · rw [List.getElem?_eq_none (by rw [seg_len (by omega)]; omega), List.getElem?_eq_none (by rw [seg_len (by omega)]; omega)]
theorem PCx.rv {w : World} {F : Nat → Prop} {a : Nat} {L : Lay} {c : Chp} (h : PCx w F a L c) {b off n : Nat} (hb : b < c.B) (ho : off + n ≤ c.N) : RV w (some ⟨L.kr b, off, none⟩) (bv (seg c.bytes (b * c.N + off) n)) := by
  have h1 := (h.row b hb).rvAt off
  have h2 := h1.take n
  rw [← bv_take] at h2
  have hl := h.ok.row_len hb
  have e : ((c.row b ++ L.tl b).drop off).take n = seg c.bytes (b * c.N + off) n := by
    rw [List.drop_append_of_le_length (by omega), List.take_append_of_le_length (by rw [List.length_drop]; omega), ← row_seg h.ok hb ho]
    rfl
  rwa [e] at h2
theorem rows_flat {c : Chp} (h : ChOk c) : ((List.range c.B).map c.row).flatten = c.bytes := by
  have hg : ∀ n, n ≤ c.B → ((List.range n).map c.row).flatten = c.bytes.take (n * c.N) := by
    intro n
    induction n with
    | zero => intro _; simp
    | succ n ih =>
      intro hn
      rw [List.range_succ, List.map_append, List.flatten_append, ih (by omega)]
      simp only [List.map_cons, List.map_nil, List.flatten_cons, List.flatten_nil, List.append_nil]
      unfold Chp.row
      rw [Nat.succ_mul, List.take_add]
  rw [hg c.B (Nat.le_refl _), ← h.len, List.take_length]

def ReadEnd (w : World) (r : List UInt8 × Nat) (e : Ending) (w' : World) : Prop :=
  ∃ v, e = .returned (.tuple #[v, .int .i64 (r.2 : Int)]) ∧ OwnB 5 w' w.heap.size v r.1 ∧ Below w.heap.size w w'
set_option maxRecDepth 100000 in
set_option maxHeartbeats 400000 in
theorem read_pc {w : World} {F : Nat → Prop} {a : Nat} {L : Lay} {c : Chp} (h : PCx w F a L c) (b p : Int) :
    Calls Try.prog 13 #[.pointer (some ⟨a, 0, none⟩), .int .i64 b, .int .i64 p] w (ReadEnd w (readS c b p)) := by
  have HA := ask_pc h b p
  by_cases hq : askS c b p = 0
  · have hr : readS c b p = (seg c.bytes (b.toNat * c.N + p.toNat * c.S) c.S, 0) := by
      unfold readS
      rw [if_neg (fun h => h hq)]
    have hth : thereS c b p := by
      unfold askS at hq
      split at hq
      · cases hq
      · split at hq
        · assumption
        · cases hq
    unfold thereS at hth
    obtain ⟨q, rfl⟩ : ∃ q : Nat, b = (q : Int) := ⟨b.toNat, by omega⟩
    obtain ⟨t, rfl⟩ : ∃ t : Nat, p = (t : Int) := ⟨p.toNat, by omega⟩
    obtain ⟨e1, e2, e3⟩ := h.ok.page_end (b := q) (p := t) (by omega) (by omega)
    have HP := Lib.hid (page_pc h (b := q) (p := t) (by omega) (by omega))
    have hrv := h.rv (b := q) (off := t * c.S) (n := c.S) (by omega) e1
    have hsl : (seg c.bytes (q * c.N + t * c.S) c.S).length = c.S := seg_len (by omega)
    have hS := h.ok.s2
    rw [hr]
    simp only [Int.toNat_natCast]
    rw [hq] at HA
    have HA := Lib.hid HA
    generalize seg c.bytes (q * c.N + t * c.S) c.S = xs at *
    have HV := Lib.hid (And.intro hrv hsl)
    generalize c.S = S at *
    clear hr hrv hsl e1 e2 e3 hth hq h
    generalize t * S = Q at *
    go_enter Try.func13, Try.ntmps13
    go_wp2_with fail
    refine HA.out.mono ?_
    rintro e w1 ⟨rfl, rfl⟩
    go_wp2_with fail
    refine HP.out.mono ?_
    rintro e w2 ⟨rfl, hd⟩
    have H2 := Lib.hid (And.intro (hd.below w1.heap.size) (HV.out.1.below (hd.below _)))
    clear hd
    go_wp2_with fail
    refine (clone_ok w2 _ S S xs HV.out.2 H2.out.2 (by omega)).mono ?_
    rintro e w3 ⟨v3, rfl, ho3, hb3⟩
    have H3 := Lib.hid (And.intro (ho3.lower H2.out.1.size) (below_then H2.out.1 H2.out.1.size hb3))
    clear ho3 hb3
    go_wp2_with fail
    go_ret2
    exact ⟨_, rfl, H3.out.1, H3.out.2⟩
  · have hr : readS c b p = ([], askS c b p) := by
      unfold readS
      rw [if_pos hq]
    rw [hr]
    generalize askS c b p = q at *
    have hne : ((q : Int) != 0) = true := by simp; omega
    have HA := Lib.hid HA
    clear hr hq h
    go_enter Try.func13, Try.ntmps13
    go_wp2_with fail
    refine HA.out.mono ?_
    rintro e w1 ⟨rfl, rfl⟩
    go_wp2_with fail
    go_ret2
    exact ⟨_, rfl, OwnB.nil _ _ _, Below.refl _ _⟩
theorem read_off (w : World) (A : Option Addr) (b p : Int) (h : Calls Try.prog 41 #[.pointer A] w fun e w' => e = .returned (.bool true) ∧ w' = w) :
    Calls Try.prog 13 #[.pointer A, .int .i64 b, .int .i64 p] w fun e w' => e = .returned (.tuple #[.slice none 0 0, .int .i64 1]) ∧ w' = w := by
  have HA := Lib.hid (ask_off w A b p h)
  clear h
  go_enter Try.func13, Try.ntmps13
  go_wp2_with fail
  refine HA.out.mono ?_
  rintro e w1 ⟨rfl, rfl⟩
  go_wp2_with fail
  go_ret2
  exact ⟨rfl, rfl⟩

set_option maxRecDepth 100000 in
set_option maxHeartbeats 400000 in
theorem bytes_pc {w : World} {F : Nat → Prop} {a : Nat} {L : Lay} {c : Chp} (h : PCx w F a L c) :
    Calls Try.prog 22 #[.pointer (some ⟨a, 0, none⟩)] w fun e w' => ∃ v, e = .returned v ∧ OwnB 5 w' w.heap.size v c.bytes ∧ Below w.heap.size w w' := by
  obtain ⟨c0, c1, c2, c3, c4, c5, c6, c7, c8, c9⟩ := h.cells
  have HO := Lib.hid (off_pc h)
  have hN := h.ok.n
  have hlen := h.ok.len
  have HC := concat_any w L.kb L.cb ((List.range c.B).map c.row) c.B (by simp) (by have := h.ok.b2; omega) (h.lt _ h.i1.2.2) (by rw [rows_flat h.ok]; omega) (fun j l hl => by
    rw [List.getElem?_map, Option.map_eq_some_iff] at hl
    obtain ⟨i, hi, rfl⟩ := hl
    obtain ⟨hi1, hi2⟩ := List.getElem?_eq_some_iff.1 hi
    rw [List.getElem_range] at hi2
    subst hi2
    have hj : j < c.B := by simpa using hi1
    refine ⟨some ⟨L.kr j, 0, none⟩, c.N + (L.tl j).length, ?_, ?_⟩
    · rw [h.ok.row_len hj]
      exact h.kb j hj
    · have h1 := h.rv (b := j) (off := 0) (n := c.N) hj (by omega)
      have e : seg c.bytes (j * c.N + 0) c.N = c.row j := by unfold seg Chp.row; rw [Nat.add_zero]
      rwa [e] at h1)
  rw [rows_flat h.ok] at HC
  have HC := Lib.hid HC
  clear c0 c1 c2 c3 c5 c6 c7 c8 c9 h hN hlen
  go_enter Try.func22, Try.ntmps22
  go_wp2_with fail
  refine HO.out.mono ?_
  rintro e w1 ⟨rfl, rfl⟩
  go_wp2_with fail
  refine HC.out.mono ?_
  rintro e w2 ⟨v2, rfl, ho2, hb2⟩
  have H2 := Lib.hid (And.intro ho2 hb2)
  clear ho2 hb2
  go_wp2_with fail
  go_ret
  exact ⟨_, rfl, H2.out.1, H2.out.2⟩
theorem bytes_off (w : World) (A : Option Addr) (h : Calls Try.prog 41 #[.pointer A] w fun e w' => e = .returned (.bool true) ∧ w' = w) :
    Calls Try.prog 22 #[.pointer A] w fun e w' => e = .returned (.slice none 0 0) ∧ w' = w := by
  have HO := Lib.hid h
  clear h
  go_enter Try.func22, Try.ntmps22
  go_wp2_with fail
  refine HO.out.mono ?_
  rintro e w1 ⟨rfl, rfl⟩
  go_wp2_with fail
  go_ret
  exact ⟨rfl, rfl⟩
end Go.Proofs.Ytlcdabmclcfagaa
