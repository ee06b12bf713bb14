/- Layer 17: contract of lay. -/
import Derived.Test.YtakjjfohjodepaaProg
import Derived.Test.YtakjjfohjodepaaPointS
import Derived.Test.YtakjjfohjodepaaPutE
import Derived.Test.YtakjjfohjodepaaApp
import Derived.Test.YtakjjfohjodepaaByte
import Derived.Test.YtakjjfohjodepaaFrame
set_option linter.unusedVariables false
set_option linter.unusedSimpArgs false
namespace Go.Proofs.Ytakjjfohjodepaa
open Go.RowKit

/-- Numbers of sizes, one behind the other. -/
def laidS (fs : List (Nat × Nat)) : List UInt8 := fs.flatMap fun p => digs p.1 p.2
theorem laidS_snoc {fs : List (Nat × Nat)} {j : Nat} {p : Nat × Nat} (h : fs[j]? = some p) : laidS (fs.take (j + 1)) = laidS (fs.take j) ++ digs p.1 p.2 := by
  unfold laidS
  rw [List.take_add_one, h]
  simp
theorem laidS_le (fs : List (Nat × Nat)) (h : ∀ p ∈ fs, p.2 ≤ 8) : (laidS fs).length ≤ 8 * fs.length := by
  induction fs with
  | nil => simp [laidS]
  | cons a l ih =>
    have h1 := h a (by simp)
    have h2 := ih fun p hp => h p (by simp [hp])
    simp only [laidS, List.flatMap_cons, List.length_append, digs_length, List.length_cons] at h2 ⊢
    omega

set_option maxRecDepth 100000 in
set_option maxHeartbeats 1000000 in
theorem lay_any (w : World) (G c : Nat) (fs : List (Nat × Nat)) (n : Nat) (hn : fs.length = n) (hn4 : n ≤ 4) (hG : G < w.heap.size)
    (hp : ∀ p ∈ fs, IsSz (p.2 : Int) ∧ p.1 < 256 ^ p.2 ∧ p.1 < 18446744073709551616)
    (hc : ∀ j p, fs[j]? = some p → w.cell? ⟨G, j * 2, none⟩ = some (.int .u64 (p.1 : Int)) ∧ w.cell? ⟨G, j * 2 + 1, none⟩ = some (.int .i64 (p.2 : Int))) :
    Calls Try.prog 25 #[.slice (some ⟨G, 0, none⟩) n c] w fun e w' => ∃ v, e = .returned v ∧ OwnB 5 w' w.heap.size v (laidS fs) ∧ Below w.heap.size w w' := by
  have H := Lib.hid (And.intro hn (And.intro hp hc))
  clear hn hp hc
  go_enter Try.func25, Try.ntmps25
  go_wp2_with fail
  go_loopg [3, 10] n (fun k v i wr => ∃ j : Nat, j + k = n ∧ i = .int .i64 j ∧ OwnB 5 wr w.heap.size v (laidS (fs.take j)) ∧ Below w.heap.size w wr)
  case atStart => exact ⟨0, by omega, rfl, OwnB.nil _ _ _, Below.refl _ _⟩
  case round =>
    obtain ⟨j, hj, rfl, ho, hb⟩ := hrel
    have HX := Lib.hid (And.intro hj (And.intro ho hb))
    clear hj ho hb
    by_cases hlt : j < n
    · obtain ⟨p, hpj⟩ : ∃ p, fs[j]? = some p := ⟨_, List.getElem?_eq_getElem (by have := H.out.1; omega)⟩
      have hcj := H.out.2.2 j p hpj
      have hc1 := (World.cell?_of_block (HX.out.2.2.block G hG)).trans hcj.1
      have hc2 := (World.cell?_of_block (HX.out.2.2.block G hG)).trans hcj.2
      have hP := H.out.2.1 p (List.mem_of_getElem? hpj)
      have HP := Lib.hid (And.intro hP hpj)
      clear hcj hP hpj
      obtain ⟨m, s⟩ := p
      dsimp only at hc1 hc2
      have hlen : (laidS (fs.take j)).length ≤ 32 := by
        have h1 := laidS_le (fs.take j) fun q hq => isSz_le (H.out.2.1 q (List.mem_of_mem_take hq)).1 |>.2
        rw [List.length_take] at h1
        omega
      generalize hx : laidS (fs.take j) = xs at hlen
      have HXS := Lib.hid hx
      clear hx
      go_wp2_with fail
      refine (put_ok m s _ HP.out.1.1 HP.out.1.2.1 HP.out.1.2.2).mono ?_
      rintro e w1 ⟨v1, rfl, ho1, hb1⟩
      obtain ⟨A1, c1, rfl, hrv1, _, _, _⟩ := ho1.slice
      have hd := digs_length m s
      have hs8 := (isSz_le HP.out.1.1).2
      have hown : OwnB 5 (wr.alloc (.cells #[.int .u64 (m : Int), .int .i64 (s : Int)] 55)) w.heap.size u3 xs := (by have := HX.out.2.1; rw [HXS.out] at this; exact this.below ((Below.refl _ _).alloc (Nat.le_refl _) _))
      have hown1 := hown.below hb1
      have hbb := below_then (HX.out.2.2.alloc HX.out.2.2.size (.cells #[.int .u64 (m : Int), .int .i64 (s : Int)] 55)) (by have := HX.out.2.2.size; simp; omega) hb1
      have H1 := Lib.hid (And.intro hown1 (And.intro hrv1 (And.intro hbb hd)))
      clear hown hown1 hrv1 hbb ho1 hb1
      rw [hd]
      generalize hy : digs m s = ys at H1 hd
      have HY := Lib.hid hy
      clear hy
      go_wp2_with (at_builtin; refine wpList_appB _ rfl _ _ 22 rfl w.heap.size 5 Try.underlying22 u8info u3 xs rfl H1.out.1 A1 s c1 ys rfl H1.out.2.2.2 H1.out.2.1 ?_ ?_ ?_)
      · omega
      · exact H1.out.2.2.1.size
      intro v2 w2 ho2 hg2 hv2
      have hb2 : Below w.heap.size w w2 := H1.out.2.2.1.grown hg2 H1.out.2.2.1.size fun k e => (H1.out.1.blk e).1
      have H2 := Lib.hid (And.intro ho2 hb2)
      clear ho2 hg2 hv2 hb2
      go_wp2_with fail
      obtain ⟨hj, _, _⟩ := HX.out
      go_roundg (n - (j + 1))
      case measure => omega
      case rel =>
        refine ⟨j + 1, by omega, by go_num, ?_, H2.out.2⟩
        rw [laidS_snoc HP.out.2, HXS.out, HY.out]
        exact H2.out.1
    · obtain rfl : j = n := by have := HX.out.1; omega
      go_wp2_with fail
      go_ret
      obtain ⟨_, ho, hb⟩ := HX.out
      rw [List.take_of_length_le (by rw [H.out.1]; exact Nat.le_refl _)] at ho
      exact ⟨_, rfl, ho, hb⟩
end Go.Proofs.Ytakjjfohjodepaa
