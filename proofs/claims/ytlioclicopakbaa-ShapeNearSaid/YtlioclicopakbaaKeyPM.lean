import Derived.Test.YtlioclicopakbaaKeyMM
import Derived.Test.YtlioclicopakbaaBelowNM
import Derived.Test.YtlioclicopakbaaMPut
import Derived.Test.YtlioclicopakbaaMApp
import Derived.Test.YtlioclicopakbaaConvM
set_option linter.unusedVariables false
set_option linter.unusedSimpArgs false
/- A key's bytes: the program's contract. -/
namespace Go.Proofs.Ytlioclicopakbaa
open Go.RowKit

def PutKeyEnd (w : World) (r : List UInt8 × Nat) (e : Ending) (w' : World) : Prop :=
  ∃ v, e = .returned (.tuple #[v, .int .i64 (r.2 : Int)]) ∧ OwnB 5 w' w.heap.size v r.1 ∧ Below w.heap.size w w'

theorem putRow_at (w : World) (A : Option Addr) (n c : Nat) (xs : List UInt8) (hn : xs.length = n) (hr : RV w A (bv xs)) (hx : n ≤ 255) :
    Calls Try.prog 50 #[.slice A n c] w (PutEnd w (UInt8.ofNat n :: xs)) := by
  subst hn
  exact putRow_ok w A c xs hr hx

set_option maxRecDepth 100000 in
set_option maxHeartbeats 1000000 in
theorem putKey_any (w : World) (k : Ky) (hs : k.name.size ≤ maxLen) : Calls Try.prog 34 #[k.val] w (PutKeyEnd w (putKeyS k)) := by
  by_cases hm : mayK k
  · have hput : putKeyS k = (keyB k, 0) := if_pos hm
    rw [hput]
    have hdm : decide (mayK k) = true := decide_eq_true hm
    have hC := fun w => mayK_any w k hs
    rw [hdm] at hC
    have HC := Lib.hid hC
    clear hC hdm hput
    obtain ⟨i, a, s, c⟩ := k
    obtain ⟨hi1, hi2, hk⟩ := hm
    dsimp only at hi1 hi2 hk hs
    unfold Ky.val at *
    dsimp only at HC ⊢
    have hblk := Blk.new w 33 #[.int .i64 i, .int .u8 (a.toNat : Int), .string s, .int .i64 c]
    have HB := Lib.hid hblk
    clear hblk
    obtain ⟨m, rfl⟩ : ∃ m : Nat, i = m := ⟨i.toNat, by omega⟩
    have ha255 : (a.toNat : Int) ≤ 255 := by have := a.toNat_lt; omega
    rcases hk with ⟨ha, hn, hc⟩ | ⟨ha, hn, hc⟩ | ⟨ha, hn, hc, hc8⟩
    · have q1 : ((a.toNat : Int) == 2) = false := by rw [ha]; rfl
      have q2 : ((a.toNat : Int) == 3) = false := by rw [ha]; rfl
      have hkb : keyB ⟨m, a, s, c⟩ = digs m 2 ++ [a] := by rw [ha]; simp [keyB]
      rw [hkb]
      clear ha hn hc hkb
      generalize hA : (a.toNat : Int) = n at *
      have HA := Lib.hid hA.symm
      clear hA
      go_enter Try.func34, Try.ntmps34
      go_wp2_with (first
        | (go_at_call 43; refine (HC.out _).mono ?_; rintro e w1 ⟨rfl, hb1⟩; have k0 := HB.out.below hb1 HB.out.lt; have c0 := k0.cell 0; have c1 := k0.cell 1; have c2 := k0.cell 2; have c3 := k0.cell 3; simp at c0 c1 c2 c3; have H1 := Lib.hid (And.intro (below_new hb1) k0); clear hb1 k0))
      have hszw : w.heap.size < w1.heap.size := H1.out.2.lt
      clear c0 c1 c2 c3
      refine (put_ok m 2 w1 (.inr (.inl rfl)) (by omega) (by omega)).mono ?_
      rintro e w2 ⟨v2, rfl, ho2, hb2⟩
      have k2 := H1.out.2.below hb2 H1.out.2.lt
      have d1 := k2.cell 1
      simp at d1
      have hlen := digs_length m 2
      generalize hds : digs m 2 = D at *
      have H2 := Lib.hid (And.intro ho2 (And.intro (below_then H1.out.1 H1.out.1.size hb2) (And.intro k2 hds)))
      have hsz2 := hb2.size
      clear k2 ho2 hb2 hds
      go_wp2_with (at_builtin; refine wpList_appB1 w2 rfl _ _ 37 rfl w1.heap.size 5 Try.underlying37 u8info v2 D rfl H2.out.1 _ a rfl HA.out (by omega) (by omega) ?_)
      intro v3 w3 ho3 hg3
      have k3 := H2.out.2.2.1.grown hg3 (fun e => by have := (H2.out.1.blk e.symm).1; omega)
      clear d1
      have d1 := k3.cell 1
      have d2 := k3.cell 2
      have d3 := k3.cell 3
      simp at d1 d2 d3
      have hsz3 := hg3.size
      have H3 := Lib.hid (And.intro ho3 (And.intro k3 (H2.out.2.1.grown hg3 H2.out.2.1.size (fun k e => by have := (H2.out.1.blk e).1; omega))))
      clear k3 ho3 hg3
      go_wp2_with fail
      go_ret2
      exact ⟨_, rfl, H3.out.1.lower H1.out.1.size, H3.out.2.2⟩
    · have hl12 : s.size ≤ 12 := hn.2.2.1
      have q1 : ((a.toNat : Int) == 2) = true := by rw [ha]; rfl
      have hkb : keyB ⟨m, a, s, c⟩ = digs m 2 ++ [a] ++ (UInt8.ofNat s.size :: s.data.toList) := by rw [ha]; simp [keyB]
      rw [hkb]
      clear ha hn hc hkb
      generalize hA : (a.toNat : Int) = n at *
      have HA := Lib.hid hA.symm
      clear hA
      go_enter Try.func34, Try.ntmps34
      go_wp2_with (first
        | (go_at_call 43; refine (HC.out _).mono ?_; rintro e w1 ⟨rfl, hb1⟩; have k0 := HB.out.below hb1 HB.out.lt; have c0 := k0.cell 0; have c1 := k0.cell 1; have c2 := k0.cell 2; have c3 := k0.cell 3; simp at c0 c1 c2 c3; have H1 := Lib.hid (And.intro (below_new hb1) k0); clear hb1 k0))
      have hszw : w.heap.size < w1.heap.size := H1.out.2.lt
      clear c0 c1 c2 c3
      refine (put_ok m 2 w1 (.inr (.inl rfl)) (by omega) (by omega)).mono ?_
      rintro e w2 ⟨v2, rfl, ho2, hb2⟩
      have k2 := H1.out.2.below hb2 H1.out.2.lt
      have d1 := k2.cell 1
      simp at d1
      have hlen := digs_length m 2
      generalize hds : digs m 2 = D at *
      have H2 := Lib.hid (And.intro ho2 (And.intro (below_then H1.out.1 H1.out.1.size hb2) (And.intro k2 hds)))
      have hsz2 := hb2.size
      clear k2 ho2 hb2 hds
      go_wp2_with (at_builtin; refine wpList_appB1 w2 rfl _ _ 37 rfl w1.heap.size 5 Try.underlying37 u8info v2 D rfl H2.out.1 _ a rfl HA.out (by omega) (by omega) ?_)
      intro v3 w3 ho3 hg3
      have k3 := H2.out.2.2.1.grown hg3 (fun e => by have := (H2.out.1.blk e.symm).1; omega)
      clear d1
      have d1 := k3.cell 1
      have d2 := k3.cell 2
      have d3 := k3.cell 3
      simp at d1 d2 d3
      have hsz3 := hg3.size
      have H3 := Lib.hid (And.intro ho3 (And.intro k3 (H2.out.2.1.grown hg3 H2.out.2.1.size (fun k e => by have := (H2.out.1.blk e).1; omega))))
      clear k3 ho3 hg3
      obtain ⟨cc, W4, hrun, hrv4, hb4⟩ := conv_str (P := Try.prog) w3 9 37 5 s Try.underlying9 Try.underlying37 Try.underlying5
      have H4 := Lib.hid (And.intro hrv4 (And.intro hb4 (below_then H3.out.2.2 H3.out.2.2.size hb4)))
      have hsz4 := hb4.size
      clear hrv4 hb4
      go_wp2_with fail
      refine (putRow_at W4 _ s.size cc s.data.toList rfl H4.out.1 (by omega)).mono ?_
      rintro e w5 ⟨v5, rfl, ho5, hb5⟩
      obtain ⟨A5, c5, rfl, hrv5, _, _, _⟩ := ho5.slice
      have hlen5 : (UInt8.ofNat s.size :: s.data.toList).length = s.size + 1 := rfl
      have H5 := Lib.hid (And.intro hrv5 (And.intro ((H3.out.1.below H4.out.2.1).below hb5) (And.intro (below_then H4.out.2.2 H4.out.2.2.size hb5) hlen5)))
      have hsz5 := hb5.size
      clear hrv5 hb5 ho5
      rw [hlen5]
      clear hlen5
      generalize hR : (UInt8.ofNat s.size :: s.data.toList) = R at *
      go_wp2_with (at_builtin; refine wpList_appB _ rfl _ _ 37 rfl w1.heap.size 5 Try.underlying37 u8info v3 (D ++ [a]) rfl H5.out.2.1 _ (s.size + 1) c5 R rfl H5.out.2.2.2 H5.out.1 ?_ ?_ ?_)
      · rw [List.length_append, H5.out.2.2.2, hlen]; simp; omega
      · omega
      intro v6 w6 ho6 hg6 hv6
      have H6 := Lib.hid (And.intro ho6 (H5.out.2.2.1.grown hg6 H5.out.2.2.1.size (fun k e => by have := (H5.out.2.1.blk e).1; omega)))
      clear ho6 hg6 hv6
      go_wp2_with fail
      go_ret2
      refine ⟨_, rfl, ?_, H6.out.2⟩
      show OwnB 5 w6 w.heap.size v6 (D ++ [a] ++ R)
      rw [List.append_assoc]
      exact H6.out.1.lower H1.out.1.size
    · obtain ⟨z, rfl⟩ : ∃ z : Nat, c = z := ⟨c.toNat, by omega⟩
      have q1 : ((a.toNat : Int) == 2) = false := by rw [ha]; rfl
      have q2 : ((a.toNat : Int) == 3) = true := by rw [ha]; rfl
      have hkb : keyB ⟨m, a, s, z⟩ = digs m 2 ++ [a] ++ [UInt8.ofNat z] := by rw [ha]; simp [keyB]
      have hzb : (z : Int) = ((UInt8.ofNat z).toNat : Int) := by rw [UInt8.toNat_ofNat']; omega
      have HZ := Lib.hid hzb
      rw [hkb]
      clear ha hn hkb hzb
      generalize hA : (a.toNat : Int) = n at *
      have HA := Lib.hid hA.symm
      clear hA
      go_enter Try.func34, Try.ntmps34
      go_wp2_with (first
        | (go_at_call 43; refine (HC.out _).mono ?_; rintro e w1 ⟨rfl, hb1⟩; have k0 := HB.out.below hb1 HB.out.lt; have c0 := k0.cell 0; have c1 := k0.cell 1; have c2 := k0.cell 2; have c3 := k0.cell 3; simp at c0 c1 c2 c3; have H1 := Lib.hid (And.intro (below_new hb1) k0); clear hb1 k0))
      have hszw : w.heap.size < w1.heap.size := H1.out.2.lt
      clear c0 c1 c2 c3
      refine (put_ok m 2 w1 (.inr (.inl rfl)) (by omega) (by omega)).mono ?_
      rintro e w2 ⟨v2, rfl, ho2, hb2⟩
      have k2 := H1.out.2.below hb2 H1.out.2.lt
      have d1 := k2.cell 1
      simp at d1
      have hlen := digs_length m 2
      generalize hds : digs m 2 = D at *
      have H2 := Lib.hid (And.intro ho2 (And.intro (below_then H1.out.1 H1.out.1.size hb2) (And.intro k2 hds)))
      have hsz2 := hb2.size
      clear k2 ho2 hb2 hds
      go_wp2_with (at_builtin; refine wpList_appB1 w2 rfl _ _ 37 rfl w1.heap.size 5 Try.underlying37 u8info v2 D rfl H2.out.1 _ a rfl HA.out (by omega) (by omega) ?_)
      intro v3 w3 ho3 hg3
      have k3 := H2.out.2.2.1.grown hg3 (fun e => by have := (H2.out.1.blk e.symm).1; omega)
      clear d1
      have d1 := k3.cell 1
      have d2 := k3.cell 2
      have d3 := k3.cell 3
      simp at d1 d2 d3
      have hsz3 := hg3.size
      have H3 := Lib.hid (And.intro ho3 (And.intro k3 (H2.out.2.1.grown hg3 H2.out.2.1.size (fun k e => by have := (H2.out.1.blk e).1; omega))))
      clear k3 ho3 hg3
      go_wp2_with (at_builtin; refine wpList_appB1 w3 rfl _ _ 37 rfl w1.heap.size 5 Try.underlying37 u8info v3 (D ++ [a]) rfl H3.out.1 _ (UInt8.ofNat z) rfl HZ.out (by simp [hlen]) (by omega) ?_)
      intro v6 w6 ho6 hg6
      have H6 := Lib.hid (And.intro ho6 (H3.out.2.2.grown hg6 H3.out.2.2.size (fun k e => by have := (H3.out.1.blk e).1; omega)))
      clear ho6 hg6
      go_wp2_with fail
      go_ret2
      refine ⟨_, rfl, ?_, H6.out.2⟩
      show OwnB 5 w6 w.heap.size v6 (D ++ [a] ++ [UInt8.ofNat z])
      rw [List.append_assoc]
      exact H6.out.1.lower H1.out.1.size
  · have hput : putKeyS k = ([], 2) := if_neg hm
    rw [hput]
    have hdm : decide (mayK k) = false := decide_eq_false hm
    have hC := fun w => mayK_any w k hs
    rw [hdm] at hC
    have HC := Lib.hid hC
    clear hC hdm hput hm
    obtain ⟨i, a, s, c⟩ := k
    unfold Ky.val at *
    dsimp only at HC ⊢
    generalize (a.toNat : Int) = n at *
    go_enter Try.func34, Try.ntmps34
    go_wp2_with (first
      | (go_at_call 43; refine (HC.out _).mono ?_; rintro e w1 ⟨rfl, hb1⟩; have H1 := Lib.hid (below_new hb1); clear hb1))
    go_ret2
    exact ⟨_, rfl, OwnB.nil _ _ _, H1.out⟩
end Go.Proofs.Ytlioclicopakbaa
