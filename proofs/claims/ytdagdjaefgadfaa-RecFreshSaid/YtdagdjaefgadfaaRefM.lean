import Derived.Test.YtdagdjaefgadfaaMRef
set_option linter.unusedVariables false
set_option linter.unusedSimpArgs false
/- The document's numbers. -/
namespace Go.Proofs.Ytdagdjaefgadfaa
open Go.RowKit

theorem rput_bad (w : World) (n : Nat) (s : Int) (hs : ¬ IsSz s) :
    Calls Try.prog 46 #[.int .u64 n, .int .i64 s] w fun e w' => e = .returned (.tuple #[.slice none 0 0, .int .i64 2]) ∧ w = w' := by
  have HN := Lib.hid hs
  clear hs
  go_enter Try.func46, Try.ntmps46
  go_wp2_with (go_at_call 52; refine (size_no _ _ HN.out).mono ?_; rintro e w' ⟨rfl, rfl⟩)
  go_ret2
  exact ⟨rfl, rfl⟩

theorem digs_snoc {n s j : Nat} (h : j < s) : (digs n s).take (j + 1) = (digs n s).take j ++ [UInt8.ofNat (n / 256 ^ j)] := by
  rw [List.take_add_one, digs_get h]
  rfl

/-- What the document's Put answers: the digits, or that it may not be. -/
def RPut (w : World) (n s : Nat) (e : Ending) (w' : World) : Prop :=
  Below w.heap.size w w' ∧ ((n < 256 ^ s ∧ ∃ v, e = .returned (.tuple #[v, .int .i64 0]) ∧ OwnB 5 w' w.heap.size v (digs n s)) ∨ (256 ^ s ≤ n ∧ e = .returned (.tuple #[.slice none 0 0, .int .i64 2])))

set_option maxHeartbeats 400000 in
theorem rput_any (w : World) (n s : Nat) (hs : IsSz s) (h64 : n < 18446744073709551616) :
    Calls Try.prog 46 #[.int .u64 n, .int .i64 s] w (RPut w n s) := by
  have hlo := (isSz_le hs).1
  have hhi := (isSz_le hs).2
  have H64 := Lib.hid h64
  clear h64
  go_enter Try.func46, Try.ntmps46
  go_wp2_with (go_at_call 52; refine (size_yes _ _ hs).mono ?_; rintro e w' ⟨rfl, rfl⟩)
  go_loopg [0, 6, 7] s (fun k m o i wr => ∃ (j : Nat), j + k = s ∧ i = .int .i64 j ∧ m = .int .u64 (n / 256 ^ j : Nat) ∧ OwnB 5 wr w.heap.size o ((digs n s).take j) ∧ Below w.heap.size w wr)
  case atStart => exact ⟨0, by omega, rfl, by simp, OwnB.nil _ _ _, Below.refl _ _⟩
  case round =>
    obtain ⟨j, hj, rfl, rfl, hown, hb⟩ := hrel
    have hq : n / 256 ^ j < 18446744073709551616 := Nat.lt_of_le_of_lt (Nat.div_le_self _ _) H64.out
    have hdd : n / 256 ^ j / 256 = n / 256 ^ (j + 1) := by rw [Nat.div_div_eq_div_mul, Nat.pow_succ]
    have hbyte : ((n / 256 ^ j : Nat) : Int) % 256 = ((UInt8.ofNat (n / 256 ^ j)).toNat : Int) := by
      rw [UInt8.toNat_ofNat']
      omega
    generalize hqe : n / 256 ^ j = q at *
    have HX := Lib.hid (show j + gk = s ∧ OwnB 5 wr w.heap.size u6 ((digs n s).take j) ∧ Below w.heap.size w wr ∧ q / 256 = n / 256 ^ (j + 1) ∧ (q : Int) % 256 = ((UInt8.ofNat q).toNat : Int) ∧ n / 256 ^ j = q from ⟨hj, hown, hb, hdd, hbyte, hqe⟩)
    have hsz := hb.size
    have hjs : j ≤ s := by omega
    have hql : (q : Int) ≤ 18446744073709551615 := by omega
    clear hj hown hb hdd hbyte hq hqe
    by_cases hlt : j < s
    · have hlen : ((digs n s).take j).length + 1 ≤ 140737488355328 := by rw [List.length_take, digs_length]; omega
      have HLN := Lib.hid hlen
      clear hlen
      go_wp2_with (at_builtin; refine wpList_appB1 wr rfl _ _ 22 rfl w.heap.size 5 Try.underlying22 u8info u6 _ rfl HX.out.2.1 _ (UInt8.ofNat q) rfl HX.out.2.2.2.2.1 HLN.out (by omega) ?_)
      intro v' w' hown' hg
      have HY := Lib.hid (And.intro hown' hg)
      clear hown' hg
      go_wp2_with fail
      obtain ⟨hj, hown, hb, hdd, hbyte, hqe⟩ := HX.out
      obtain ⟨hown', hg⟩ := HY.out
      have hds := digs_snoc (n := n) hlt
      rw [hqe] at hds
      go_roundg (s - (j + 1))
      case measure => omega
      case rel => exact ⟨j + 1, by omega, by go_num, by rw [← hdd, Int.natCast_ediv]; rfl, by rw [hds]; exact hown', hb.grown hg hsz (fun k hk => (hown.blk hk).1)⟩
    · have hge : ¬ (j : Int) < (s : Int) := by omega
      obtain ⟨hj, hown, hb, hdd, hbyte, hqe⟩ := HX.out
      obtain rfl : j = s := by omega
      rw [List.take_of_length_le (by rw [digs_length]; omega)] at hown
      by_cases hq0 : q = 0
      · have hlt' : n < 256 ^ j := by
          rcases Nat.lt_or_ge n (256 ^ j) with h | h
          · exact h
          · have := Nat.div_pos h (Nat.pow_pos (a := 256) (n := j) (by decide))
            omega
        have HE := Lib.hid (And.intro hlt' (And.intro hown hb))
        clear hown hb hdd hbyte hqe hj hlt' hge
        subst hq0
        go_wp2_with fail
        go_ret2
        exact ⟨HE.out.2.2, .inl ⟨HE.out.1, u6, rfl, HE.out.2.1⟩⟩
      · have hge' : 256 ^ j ≤ n := by
          rcases Nat.lt_or_ge n (256 ^ j) with h | h
          · rw [Nat.div_eq_of_lt h] at hqe
            omega
          · exact h
        have hq1 : (0 : Int) < (q : Int) := by omega
        have HE := Lib.hid (And.intro hge' hb)
        clear hown hb hdd hbyte hqe hj hge' hge hq0
        go_wp2_with fail
        go_ret2
        exact ⟨HE.out.2, .inr ⟨HE.out.1, rfl⟩⟩
end Go.Proofs.Ytdagdjaefgadfaa
