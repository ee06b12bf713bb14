import Derived.Test.YtdagdjaefgadfaaProg
import Derived.Test.YtdagdjaefgadfaaMBase
import Derived.Test.YtdagdjaefgadfaaSealPM
set_option linter.unusedVariables false
set_option linter.unusedSimpArgs false
/- Layer 2: contract of seal.Blank. -/
namespace Go.Proofs.Ytdagdjaefgadfaa
open Go.RowKit

theorem blank_take {l : List UInt8} {j : Nat} (h : j < l.length) (hb : blankS (l.take j)) (he : l[j] = 255) : blankS (l.take (j + 1)) := by
  rw [List.take_add_one, List.getElem?_eq_getElem h]
  intro x hx
  rcases List.mem_append.1 hx with hx | hx
  · exact hb x hx
  · simp at hx
    rw [hx, he]

set_option maxHeartbeats 400000 in
theorem blank_any (A : Option Addr) (c : Nat) (xs : List UInt8) (w : World) (hr : RV w A (bv xs)) (hx : xs.length ≤ maxLen) :
    Calls Try.prog 38 #[.slice A xs.length c] w fun e w' => e = .returned (.bool (decide (blankS xs))) ∧ w = w' := by
  unfold maxLen at hx
  have HR := Lib.hid hr
  clear hr
  go_enter Try.func38, Try.ntmps38
  go_wp2_with fail
  go_loopg [7] xs.length (fun k i wr => ∃ j : Nat, j + k = xs.length ∧ i = .int .i64 j ∧ wr = w ∧ blankS (xs.take j))
  case atStart => exact ⟨0, by omega, rfl, rfl, fun x hx => by cases hx⟩
  case round =>
    obtain ⟨j, hj, rfl, rfl, hb⟩ := hrel
    have HJ := Lib.hid (And.intro hj hb)
    clear hj hb
    by_cases hlt : j < xs.length
    · obtain ⟨ad, rfl, hcell⟩ := HR.out.at_ (k := j) (by rw [bv_length]; omega)
      have hbj : (bv xs)[j]'(by rw [bv_length]; omega) = .int .u8 (xs[j].toNat : Int) := by simp [bv]
      rw [hbj] at hcell
      by_cases he : xs[j] = 255
      · have hn := blank_take hlt HJ.out.2 he
        have h255 : ((xs[j].toNat : Int) != 255) = false := by rw [he]; rfl
        generalize xs[j].toNat = x at hcell h255
        have HN := Lib.hid hn
        clear hn hbj he
        go_wp2_with fail
        go_roundg (xs.length - (j + 1))
        case measure => have := HJ.out.1; omega
        case rel => exact ⟨j + 1, by have := HJ.out.1; omega, by go_num, rfl, HN.out⟩
      · have hn : ¬ blankS xs := fun h => he (h _ (List.getElem_mem hlt))
        have h255 : ((xs[j].toNat : Int) != 255) = true := by
          have : xs[j].toNat ≠ 255 := fun h => he (UInt8.toNat.inj h)
          simp
          omega
        generalize xs[j].toNat = x at hcell h255
        have HN := Lib.hid hn
        clear hn hbj he
        go_wp2_with fail
        go_ret
        exact ⟨ret_bool (decide_eq_false HN.out).symm, rfl⟩
    · have hjx : j = xs.length := by have := HJ.out.1; omega
      have hfin : blankS xs := by have := HJ.out.2; rwa [hjx, List.take_length] at this
      have HF := Lib.hid hfin
      clear hfin hjx
      go_wp2_with fail
      go_ret
      exact ⟨ret_bool (decide_eq_true HF.out).symm, rfl⟩

theorem blank_at (A : Option Addr) (n c : Nat) (xs : List UInt8) (w : World) (hn : xs.length = n) (hr : RV w A (bv xs)) (hx : n ≤ maxLen) :
    Calls Try.prog 38 #[.slice A n c] w fun e w' => e = .returned (.bool (decide (blankS xs))) ∧ w = w' := by
  subst hn
  exact blank_any A c xs w hr hx
end Go.Proofs.Ytdagdjaefgadfaa

/- Layer 2: contract of seal.Get. -/
namespace Go.Proofs.Ytdagdjaefgadfaa
open Go.RowKit

theorem take5 {xs : List UInt8} (h : 5 ≤ xs.length) : xs.take 5 = [xs.getD 0 0, xs.getD 1 0, xs.getD 2 0, xs.getD 3 0, xs.getD 4 0] := by
  match xs, h with
  | a :: b :: c :: d :: e :: r, _ => rfl
theorem take2_5 (a b c d e : UInt8) : takeS (some [a, b, c, d, e]) 2 = (a.toNat + 256 * b.toNat, 0, some [c, d, e]) := by simp [takeS, leval]
theorem take1_3 (c d e : UInt8) : takeS (some [c, d, e]) 1 = (c.toNat, 0, some [d, e]) := by simp [takeS, leval]
theorem take2_2 (d e : UInt8) : takeS (some [d, e]) 2 = (d.toNat + 256 * e.toNat, 0, some []) := by simp [takeS, leval]

theorem getPage_size (w : World) (A : Option Addr) (c : Nat) (xs : List UInt8) (h : ¬ isPage xs.length) (hm : xs.length ≤ maxLen) :
    Calls Try.prog 14 #[.slice A xs.length c] w (GetPageEnd w (0, [], 2)) := by
  unfold maxLen at hm
  have H := Lib.hid (show ¬ (128 ≤ (xs.length : Int) ∧ (xs.length : Int) ≤ 256) from fun hh => h ⟨by omega, by omega⟩)
  clear h
  go_enter Try.func14, Try.ntmps14
  go_wp2_with (go_at_call 37; refine (pisSize_no _ _ H.out).mono ?_; rintro e w' ⟨rfl, rfl⟩)
  go_ret3
  exact ⟨_, rfl, OwnB.nil _ _ _, Below.refl _ _⟩
theorem getPage_blank (w : World) (A : Option Addr) (c : Nat) (xs : List UInt8) (hr : RV w A (bv xs)) (h1 : 128 ≤ xs.length) (h2 : xs.length ≤ 256) (hb : blankS xs) :
    Calls Try.prog 14 #[.slice A xs.length c] w (GetPageEnd w (0, [], 6)) := by
  have HB := Lib.hid (And.intro hr (decide_eq_true hb))
  clear hr hb
  go_enter Try.func14, Try.ntmps14
  go_wp2_with (first
    | (go_at_call 37; refine (pisSize_yes _ _ (by omega) (by omega)).mono ?_; rintro e w' ⟨rfl, rfl⟩)
    | (go_at_call 38; refine (blank_any _ _ xs _ HB.out.1 (by unfold maxLen; omega)).mono ?_; rintro e w' ⟨rfl, rfl⟩; rw [HB.out.2]))
  go_ret3
  exact ⟨_, rfl, OwnB.nil _ _ _, Below.refl _ _⟩

set_option maxRecDepth 100000 in
set_option maxHeartbeats 2000000 in
theorem getPage_rest (w : World) (A : Option Addr) (c : Nat) (xs : List UInt8) (hr : RV w A (bv xs)) (hlc : xs.length ≤ c) (hc : c ≤ maxLen) (h1 : 128 ≤ xs.length) (h2 : xs.length ≤ 256) (hb : ¬ blankS xs) :
    Calls Try.prog 14 #[.slice A xs.length c] w (GetPageEnd w (getS xs)) := by
  unfold maxLen at hc
  have h5 := take5 (xs := xs) (by omega)
  have hget : getS xs = if (xs.getD 0 0).toNat + 256 * (xs.getD 1 0).toNat ≠ noughts (xs.drop 2) then (0, [], 7)
      else if (xs.getD 2 0).toNat < 1 ∨ 7 < (xs.getD 2 0).toNat ∨ xs.length - 5 < (xs.getD 3 0).toNat + 256 * (xs.getD 4 0).toNat ∨ ¬ blankS (xs.drop (5 + ((xs.getD 3 0).toNat + 256 * (xs.getD 4 0).toNat))) then (0, [], 5)
      else ((xs.getD 2 0).toNat, (xs.drop 5).take ((xs.getD 3 0).toNat + 256 * (xs.getD 4 0).toNat), 0) := by
    unfold getS
    rw [if_neg (by unfold isPage; omega), if_neg hb]
  generalize xs.getD 0 0 = b0 at *
  generalize xs.getD 1 0 = b1 at *
  generalize xs.getD 2 0 = b2 at *
  generalize xs.getD 3 0 = b3 at *
  generalize xs.getD 4 0 = b4 at *
  obtain ⟨ad, rfl, _⟩ := hr (by rw [bv_length]; omega)
  have hr5 : RV w (some ad) (bv [b0, b1, b2, b3, b4]) := by rw [← h5, bv_take]; exact hr.take 5
  have hr2 : RV w (some (ad.add 2)) (bv (xs.drop 2)) := by rw [bv_drop]; exact hr.drop 2
  have hl2 : (xs.drop 2).length = xs.length - 2 := List.length_drop
  have hn2 := noughts_le (xs.drop 2)
  have hn2' : noughts (xs.drop 2) ≤ 2048 := by omega
  have t0 := b0.toNat_lt
  have t1 := b1.toNat_lt
  have t2 := b2.toNat_lt
  have t3 := b3.toNat_lt
  have t4 := b4.toNat_lt
  have H0 := Lib.hid (And.intro hr (And.intro (decide_eq_false hb) (And.intro hr5 (And.intro hr2 hl2))))
  generalize hN : noughts (xs.drop 2) = N at hn2' hget
  have HN := Lib.hid hN
  clear hr hb h5 hr5 hr2 hl2 hn2 hN
  have htk := take2_5 b0 b1 b2 b3 b4
  have htk1 := take1_3 b2 b3 b4
  have htk2 := take2_2 b3 b4
  generalize hm0 : b0.toNat + 256 * b1.toNat = m0 at htk hget
  generalize hn : b3.toNat + 256 * b4.toNat = n at htk2 hget
  generalize hk : b2.toNat = k at htk1 hget t2
  have hm0' : (m0 : Int) ≤ 65535 := by omega
  have hnn : (n : Int) ≤ 65535 := by omega
  have HT := Lib.hid (And.intro htk (And.intro htk1 htk2))
  have HG := Lib.hid hget
  clear htk htk1 htk2 hget hm0 hn hk t0 t1 t3 t4
  have hbody : bodyS (xs.length : Int) = xs.length - 5 := by unfold bodyS; rw [if_pos (by omega)]; simp
  have HBD := Lib.hid hbody
  clear hbody
  go_enter Try.func14, Try.ntmps14
  go_wp2_with (first
    | (go_at_call 37; refine (pisSize_yes _ _ (by omega) (by omega)).mono ?_; rintro e w' ⟨rfl, rfl⟩)
    | (go_at_call 38; refine (blank_any _ _ xs _ H0.out.1 (by unfold maxLen; omega)).mono ?_; rintro e w' ⟨rfl, rfl⟩; rw [H0.out.2.1]))
  refine (new_any w (some ad) 5 [b0, b1, b2, b3, b4] H0.out.2.2.1 (by simp)).mono ?_
  rintro e w1 ⟨g, h, rfl, hrd, hb1, hg, hgs, hh⟩
  have H1 := Lib.hid (And.intro hrd (And.intro hb1 hg))
  clear hrd hb1 hh hg hgs
  go_wp2_with fail
  refine (take_ok (s := 2) H1.out.1 isSz2 (by simp)).mono ?_
  rintro e w2 ⟨rfl, hrd2, hg2⟩
  rw [HT.out.1] at hrd2 ⊢
  have H2 := Lib.hid (And.intro hrd2 (below_grown H1.out.2.1 hg2 H1.out.2.1.size H1.out.2.2))
  clear hrd2 hg2
  go_wp2_with fail
  refine (noughts_at _ (xs.length - 2) _ (xs.drop 2) w2 H0.out.2.2.2.2 (H0.out.2.2.2.1.below H2.out.2) (by omega)).mono ?_
  rintro e w' ⟨rfl, rfl⟩
  rw [HN.out]
  by_cases hmN : m0 = N
  · subst hmN
    go_wp2_with fail
    refine (take_ok (s := 1) H2.out.1 isSz1 (by simp)).mono ?_
    rintro e w3 ⟨rfl, hrd3, hg3⟩
    rw [HT.out.2.1] at hrd3 ⊢
    have H3 := Lib.hid (And.intro hrd3 (below_grown H2.out.2 hg3 H2.out.2.size H1.out.2.2))
    clear hrd3 hg3
    go_wp2_with fail
    refine (take_ok (s := 2) H3.out.1 isSz2 (by simp)).mono ?_
    rintro e w4 ⟨rfl, hrd4, hg4⟩
    rw [HT.out.2.2] at hrd4 ⊢
    have H4 := Lib.hid (below_grown H3.out.2 hg4 H3.out.2.size H1.out.2.2)
    clear hrd4 hg4
    have hG := HG.out
    rw [if_neg (by simp)] at hG
    have fin : ∀ W : World, Below w.heap.size w W → getS xs = (0, [], 5) → GetPageEnd w (getS xs) (.returned (.tuple #[.int .u8 0, .slice none 0 0, .int .i64 5])) W := fun W hW e => by
      rw [e]
      exact ⟨_, rfl, OwnB.nil _ _ _, hW⟩
    have FIN := Lib.hid fin
    clear fin
    by_cases hk1 : k < 1
    · rw [if_pos (.inl hk1)] at hG
      have HE := Lib.hid hG
      have hd : decide ((k : Int) < 1) = true := by simp; omega
      clear hG hk1
      go_wp2_with fail
      go_ret3
      exact FIN.out _ H4.out HE.out
    · by_cases hk7 : 7 < k
      · rw [if_pos (.inr (.inl hk7))] at hG
        have HE := Lib.hid hG
        have hd : decide ((k : Int) < 1) = false := by simp; omega
        have hd7 : decide (7 < (k : Int)) = true := by simp; omega
        clear hG hk1 hk7
        go_wp2_with fail
        go_ret3
        exact FIN.out _ H4.out HE.out
      · have hd : decide ((k : Int) < 1) = false := by simp; omega
        have hd7 : decide (7 < (k : Int)) = false := by simp; omega
        by_cases hln : xs.length - 5 < n
        · rw [if_pos (.inr (.inr (.inl hln)))] at hG
          have HE := Lib.hid hG
          have hdn : decide (((xs.length - 5 : Nat) : Int) < (n : Int)) = true := by simp; omega
          clear hG hk1 hk7
          go_wp2_with (go_at_call 40; refine (body_any _ _).mono ?_; rintro e w' ⟨rfl, rfl⟩; rw [HBD.out])
          go_ret3
          exact FIN.out _ H4.out HE.out
        · have hdn : decide (((xs.length - 5 : Nat) : Int) < (n : Int)) = false := by simp; omega
          have hr5n := (H0.out.1.below H4.out).cut (k := 5 + n) (cap := c) (by rw [bv_length]; exact hlc)
          rw [← bv_drop] at hr5n
          have hl5n : (xs.drop (5 + n)).length = xs.length - (5 + n) := List.length_drop
          have hrt : RV w4 (some (ad.add 5)) (bv ((xs.drop 5).take n)) := by rw [bv_take, bv_drop]; exact ((H0.out.1.below H4.out).drop 5).take n
          have hlt : ((xs.drop 5).take n).length = n := by rw [List.length_take, List.length_drop]; omega
          have HR5 := Lib.hid (And.intro (show RV w4 (if c = 5 + n then some ad else some (ad.add (5 + n))) (bv (xs.drop (5 + n))) by simpa using hr5n) (And.intro hl5n (And.intro hrt hlt)))
          clear hr5n hl5n hrt hlt
          by_cases hbl : blankS (xs.drop (5 + n))
          · rw [if_neg (fun h => h.elim hk1 (fun h => h.elim hk7 (fun h => h.elim hln (fun h => h hbl))))] at hG
            have HE := Lib.hid (And.intro hG (decide_eq_true hbl))
            clear hG hk1 hk7 hbl
            generalize hy : (xs.drop 5).take n = y at HE HR5
            go_wp2_with (first
              | (go_at_call 40; refine (body_any _ _).mono ?_; rintro e w' ⟨rfl, rfl⟩; rw [HBD.out])
              | (go_at_call 38; refine (blank_at _ _ _ (xs.drop (5 + n)) _ HR5.out.2.1 HR5.out.1 (by unfold maxLen; omega)).mono ?_; rintro e w' ⟨rfl, rfl⟩; rw [HE.out.2])
              | (at_builtin; refine wpList_appB _ rfl _ _ 22 rfl w4.heap.size 5 Try.underlying22 u8info (.slice none 0 0) [] rfl (OwnB.nil _ _ _) _ _ _ y rfl ?_ HR5.out.2.2.1 ?_ (Nat.le_refl _) ?_))
            · have := HR5.out.2.2.2
              omega
            · have := HR5.out.2.2.2
              simp
              omega
            all_goals
              intro v5 w5 ho5 hg5 _
              have HZ := Lib.hid (And.intro (show OwnB 5 w5 w4.heap.size v5 y from ho5) (grown_none hg5))
              clear ho5 hg5
              have hk255 : (k : Int) ≤ 255 := by omega
              go_wp2_with fail
              go_ret3
              rw [HE.out.1]
              exact ⟨v5, rfl, HZ.out.1.lower H4.out.size, below_then H4.out H4.out.size HZ.out.2⟩
          · rw [if_pos (.inr (.inr (.inr hbl)))] at hG
            have HE := Lib.hid (And.intro hG (decide_eq_false hbl))
            clear hG hk1 hk7 hbl
            go_wp2_with (first
              | (go_at_call 40; refine (body_any _ _).mono ?_; rintro e w' ⟨rfl, rfl⟩; rw [HBD.out])
              | (go_at_call 38; refine (blank_at _ _ _ (xs.drop (5 + n)) _ HR5.out.2.1 HR5.out.1 (by unfold maxLen; omega)).mono ?_; rintro e w' ⟨rfl, rfl⟩; rw [HE.out.2]))
            all_goals
              go_ret3
              exact FIN.out _ H4.out HE.out.1
  · have hne : ((m0 : Int) != (N : Int)) = true := by simp; omega
    have hgt := HG.out
    rw [if_pos hmN] at hgt
    have HGT := Lib.hid hgt
    clear hgt hmN
    go_wp2_with fail
    go_ret3
    rw [HGT.out]
    exact ⟨_, rfl, OwnB.nil _ _ _, H2.out.2⟩

theorem getPage_any (w : World) (A : Option Addr) (c : Nat) (xs : List UInt8) (hr : RV w A (bv xs)) (hlc : xs.length ≤ c) (hc : c ≤ maxLen) :
    Calls Try.prog 14 #[.slice A xs.length c] w (GetPageEnd w (getS xs)) := by
  by_cases hp : isPage xs.length
  · by_cases hb : blankS xs
    · have e : getS xs = (0, [], 6) := by unfold getS; rw [if_neg (Classical.not_not.2 hp), if_pos hb]
      rw [e]
      exact getPage_blank w A c xs hr hp.1 hp.2 hb
    · exact getPage_rest w A c xs hr hlc hc hp.1 hp.2 hb
  · have e : getS xs = (0, [], 2) := by unfold getS; rw [if_pos hp]
    rw [e]
    exact getPage_size w A c xs hp (Nat.le_trans hlc hc)
end Go.Proofs.Ytdagdjaefgadfaa
