/- Layer 17: contract of Put. -/
import Derived.Test.YtakjjfohjodepaaPointL
import Derived.Test.YtakjjfohjodepaaPointM
import Derived.Test.YtakjjfohjodepaaSealP
set_option linter.unusedVariables false
set_option linter.unusedSimpArgs false
namespace Go.Proofs.Ytakjjfohjodepaa
open Go.RowKit

/-- A point's bytes. -/
def pointB (n : Nat) (b p c : Int) : List UInt8 := laidS [(n, 8), (b.toNat, 1), (p.toNat, 1), (c.toNat, 2)]
/-- What Put answers. -/
def putPointS (s : Int) (n : Nat) (b p c : Int) : List UInt8 × Nat := if mayP n b p c then putPageS s 6 (pointB n b p c) else ([], 2)
theorem pointB_length (n : Nat) (b p c : Int) : (pointB n b p c).length = 12 := by simp [pointB, laidS, digs_length]

theorem below_new {w w' : World} {o : Obj} (h : Below (w.alloc o).heap.size (w.alloc o) w') : Below w.heap.size w w' :=
  ((Below.refl _ _).alloc (Nat.le_refl _) o).trans (h.mono (by simp))
theorem lay4 (w : World) (n b p c : Nat) (hn : n < 18446744073709551616) (hb : b ≤ 255) (hp : p ≤ 255) (hc : c ≤ 65535) (cs : Array Value) (e : TypeId)
    (hcs : cs = #[.int .u64 (n : Int), .int .i64 8, .int .u64 (b : Int), .int .i64 1, .int .u64 (p : Int), .int .i64 1, .int .u64 (c : Int), .int .i64 2]) :
    Calls Try.prog 25 #[.slice (some ⟨w.heap.size, 0, none⟩) 4 4] (w.alloc (.cells cs e)) fun e w' => ∃ v, e = .returned v ∧ OwnB 5 w' w.heap.size v (pointB n b p c) ∧ Below w.heap.size w w' := by
  refine (lay_any (w.alloc (.cells cs e)) w.heap.size 4 [(n, 8), (b, 1), (p, 1), (c, 2)] 4 rfl (by omega) (by simp) ?_ ?_).mono ?_
  · intro q hq
    simp only [List.mem_cons, List.not_mem_nil, or_false] at hq
    rcases hq with rfl | rfl | rfl | rfl
    · exact ⟨.inr (.inr (.inr rfl)), by dsimp only; omega, hn⟩
    · exact ⟨.inl rfl, by dsimp only; omega, by dsimp only; omega⟩
    · exact ⟨.inl rfl, by dsimp only; omega, by dsimp only; omega⟩
    · exact ⟨.inr (.inl rfl), by dsimp only; omega, by dsimp only; omega⟩
  · subst hcs
    have hk := Blk.new w e #[.int .u64 (n : Int), .int .i64 8, .int .u64 (b : Int), .int .i64 1, .int .u64 (p : Int), .int .i64 1, .int .u64 (c : Int), .int .i64 2]
    intro j q hq
    rw [hk.cell, hk.cell]
    match j, hq with
    | 0, hq => cases hq; exact ⟨rfl, rfl⟩
    | 1, hq => cases hq; exact ⟨rfl, rfl⟩
    | 2, hq => cases hq; exact ⟨rfl, rfl⟩
    | 3, hq => cases hq; exact ⟨rfl, rfl⟩
  · rintro e w' ⟨v, rfl, ho, hb⟩
    exact ⟨v, rfl, ho.lower (by simp), below_new hb⟩

set_option maxRecDepth 100000 in
set_option maxHeartbeats 1000000 in
theorem putPoint_any (w : World) (s : Int) (n : Nat) (b p c : Int) (hn : n < 18446744073709551616) :
    Calls Try.prog 13 #[.int .i64 s, .agg #[.int .u64 (n : Int), .int .i64 b, .int .i64 p, .int .i64 c]] w (PutPageEnd w (putPointS s n b p c)) := by
  by_cases h : mayP n b p c
  · have hd : decide (mayP n b p c) = true := decide_eq_true h
    have hs : putPointS s n b p c = putPageS s 6 (pointB n b p c) := if_pos h
    obtain ⟨h1, h2, h3, h4, h5, h6, h7, _⟩ := h
    obtain ⟨b, rfl⟩ : ∃ m : Nat, b = m := ⟨b.toNat, by omega⟩
    obtain ⟨p, rfl⟩ : ∃ m : Nat, p = m := ⟨p.toNat, by omega⟩
    obtain ⟨c, rfl⟩ : ∃ m : Nat, c = m := ⟨c.toNat, by omega⟩
    have H := Lib.hid (And.intro hd hs)
    clear hd hs
    go_enter Try.func13, Try.ntmps13
    go_wp2_with (go_at_call 20; refine (may_any _ n b p c hn).mono ?_; rintro e w1 ⟨rfl, hb1⟩; rw [H.out.1]; have k0 := (Blk.new w 26 #[.int .u64 (n : Int), .int .i64 (b : Int), .int .i64 (p : Int), .int .i64 (c : Int)]).below hb1 (by simp); have c0 := k0.cell 0; have c1 := k0.cell 1; have c2 := k0.cell 2; have c3 := k0.cell 3; simp at c0 c1 c2 c3; have H1 := Lib.hid hb1; clear hb1 k0)
    refine (lay4 w1 n b p c hn (by omega) (by omega) (by omega) _ _ rfl).mono ?_
    rintro e w2 ⟨v2, rfl, ho2, hb2⟩
    have hbb := below_then (below_new H1.out) (by have := (below_new H1.out).size; exact this) hb2
    obtain ⟨A2, d2, rfl, hrv, hl, hm, _⟩ := ho2.slice
    have hlen := pointB_length n b p c
    generalize pointB n b p c = body at *
    have H2 := Lib.hid (And.intro hbb (And.intro hrv (And.intro hl (And.intro hm hlen))))
    clear hbb hrv hl hm hlen ho2 hb2
    go_wp2_with fail
    refine (putPage_any w2 s 6 A2 d2 body H2.out.2.1 (Nat.le_trans H2.out.2.2.1 H2.out.2.2.2.1)).mono ?_
    rintro e w3 ⟨v3, rfl, ho3, hb3⟩
    rw [← H.out.2] at ho3 ⊢
    have H3 := Lib.hid (And.intro ho3 hb3)
    clear ho3 hb3
    go_wp2_with fail
    go_ret2
    exact ⟨_, rfl, H3.out.1.lower H2.out.1.size, below_then H2.out.1 H2.out.1.size H3.out.2⟩
  · have hd : decide (mayP n b p c) = false := decide_eq_false h
    have hs : putPointS s n b p c = ([], 2) := if_neg h
    have H := Lib.hid (And.intro hd hs)
    clear hd hs h
    go_enter Try.func13, Try.ntmps13
    go_wp2_with (go_at_call 20; refine (may_any _ n b p c hn).mono ?_; rintro e w1 ⟨rfl, hb1⟩; rw [H.out.1]; have H1 := Lib.hid hb1; clear hb1)
    go_ret2
    rw [H.out.2]
    exact ⟨_, rfl, OwnB.nil _ _ _, ((Below.refl _ _).alloc (Nat.le_refl _) _).trans (H1.out.mono (by simp))⟩
end Go.Proofs.Ytakjjfohjodepaa
