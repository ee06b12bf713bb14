/- The walk of PointBack (layer 17). -/
import Derived.Test.YtakjjfohjodepaaPointB
set_option linter.unusedVariables false
set_option linter.unusedSimpArgs false
namespace Go.Proofs.Ytakjjfohjodepaa
open Go.RowKit

theorem putPointS_code (s : Int) (n : Nat) (b p c : Int) : (putPointS s n b p c).2 ≤ 3 ∧ ((putPointS s n b p c).2 ≠ 0 → (putPointS s n b p c).1 = []) := by
  unfold putPointS
  split
  · refine ⟨putPageS_code _ _ _, ?_⟩
    unfold putPageS
    split
    · exact fun _ => rfl
    · split
      · exact fun _ => rfl
      · exact fun h => absurd rfl h
  · exact ⟨by decide, fun _ => rfl⟩
theorem putPointS_ok {s : Int} {n : Nat} {b p c : Int} (h : (putPointS s n b p c).2 = 0) : mayP n b p c ∧ getS (putPointS s n b p c).1 = (6, pointB n b p c, 0) := by
  unfold putPointS at h ⊢
  split at h
  · rename_i hm
    rw [if_pos hm]
    refine ⟨hm, ?_⟩
    obtain ⟨h1, h2, h3, h4, h5, h6⟩ := putPageS_ok h
    rw [h6]
    exact getS_page (kind := 6) (by unfold isPage; omega) h3 h4 h5
  · cases h

set_option maxRecDepth 100000 in
set_option maxHeartbeats 1000000 in
theorem walkPointBack (w : World) (s : Int) (hs : (Lit.int .i64 s).wf = true) (n : Nat) (b p c : Int) (hn : n < 18446744073709551616) :
    Calls Try.prog 4 #[.int .i64 s, .agg #[.int .u64 (n : Int), .int .i64 b, .int .i64 p, .int .i64 c]] w fun e w' => e = .returned (.bool true) ∧ Below w.heap.size w w' := by
  clear hs
  have hk0 := Blk.new w 26 #[.int .u64 (n : Int), .int .i64 b, .int .i64 p, .int .i64 c]
  have HK0 := Lib.hid hk0
  clear hk0
  go_enter Try.func4, Try.ntmps4
  go_wp2_with fail
  refine (putPoint_any _ s n b p c hn).mono ?_
  rintro e w1 ⟨v1, rfl, ho1, hb1⟩
  obtain ⟨hc3, hnil⟩ := putPointS_code s n b p c
  by_cases hz : (putPointS s n b p c).2 = 0
  · obtain ⟨hm, hget⟩ := putPointS_ok hz
    obtain ⟨q1, q2, q3, q4, q5, q6, q7, _⟩ := hm
    obtain ⟨b, rfl⟩ : ∃ m : Nat, b = m := ⟨b.toNat, by omega⟩
    obtain ⟨p, rfl⟩ : ∃ m : Nat, p = m := ⟨p.toNat, by omega⟩
    obtain ⟨c, rfl⟩ : ∃ m : Nat, c = m := ⟨c.toNat, by omega⟩
    have hgp := getPoint_put (b := b) (p := p) (c := c) hn (putPointS_ok hz).1
    have hlen := pointB_length n b p c
    rw [hz]
    have hB1 := below_new hb1
    have hP1 := HK0.out.below hb1 HK0.out.lt
    generalize (putPointS s n b p c).1 = P at *
    generalize pointB n b p c = B at *
    have H1 := Lib.hid (And.intro ho1 (And.intro hB1 (And.intro hP1 (And.intro hget (And.intro hgp hlen)))))
    clear ho1 hb1 hB1 hP1 hget hgp hlen hz hc3 hnil
    go_wp2_with fail
    refine (dGet_own w1 _ v1 P H1.out.1).mono ?_
    rintro e w2 ⟨v2, rfl, ho2, hb2⟩
    rw [H1.out.2.2.2.1] at ho2 ⊢
    dsimp only at ho2 ⊢
    have H2 := Lib.hid (And.intro ho2 (And.intro (below_then H1.out.2.1 H1.out.2.1.size hb2) (H1.out.2.2.1.below hb2 H1.out.2.2.1.lt)))
    clear ho2 hb2
    go_wp2_with fail
    refine (getPoint_own w2 _ v2 B H2.out.1 (by rw [H1.out.2.2.2.2.2]; decide)).mono ?_
    rintro e w3 ⟨rfl, hb3⟩
    rw [H1.out.2.2.2.2.1]
    dsimp only [pointV]
    have hp3 := H2.out.2.2.below hb3 H2.out.2.2.lt
    have r0 := hp3.cell 0
    have r1 := hp3.cell 1
    have r2 := hp3.cell 2
    have r3 := hp3.cell 3
    simp at r0 r1 r2 r3
    have hlt3 : w.heap.size < w3.heap.size := hp3.lt
    have hB3 := below_then H2.out.2.1 H2.out.2.1.size hb3
    have HA := Lib.hid (hB3.alloc hB3.size (.cells #[.int .u64 (n : Int), .int .i64 (b : Int), .int .i64 (p : Int), .int .i64 (c : Int)] 26))
    clear hb3 hp3 hB3
    go_wp2_with (go_at_call 12; refine (lives_any _).mono ?_; rintro e w5 ⟨rfl, hb⟩; have HB := Lib.hid (below_then HA.out HA.out.size hb); clear hb)
    go_ret
    exact ⟨rfl, HB.out⟩
  · have hn0 := hnil hz
    rw [hn0] at ho1
    generalize (putPointS s n b p c).2 = er at *
    have hne : ((er : Int) != 0) = true := by simp; omega
    obtain ⟨A1, d1, rfl, _, _, _, _⟩ := ho1.slice
    have HA := Lib.hid (below_new hb1)
    clear ho1 hb1 hnil hn0
    go_wp2_with (go_at_call 12; refine (lives_any _).mono ?_; rintro e w5 ⟨rfl, hb⟩; have HB := Lib.hid (below_then HA.out HA.out.size hb); clear hb)
    go_ret
    exact ⟨rfl, HB.out⟩
end Go.Proofs.Ytakjjfohjodepaa
