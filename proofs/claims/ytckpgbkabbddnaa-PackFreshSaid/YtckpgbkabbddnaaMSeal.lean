import Derived.IntWalk
import Derived.Test.YtckpgbkabbddnaaProg
import Derived.Test.YtckpgbkabbddnaaMBase
import Derived.Test.YtckpgbkabbddnaaSealWM
import Derived.Test.YtckpgbkabbddnaaMApp
import Derived.Test.YtckpgbkabbddnaaMPut
set_option linter.unusedVariables false
set_option linter.unusedSimpArgs false
/- Layer 2: the document's Size, Noughts. -/
namespace Go.Proofs.Ytckpgbkabbddnaa
open Go.RowKit

theorem dSize_yes (n : Int) (w : World) (h : 128 ≤ n) (h2 : n ≤ 256) : Calls Try.prog 54 #[.int .i64 n] w fun e w' => e = .returned (.bool true) ∧ w = w' := by
  go_enter Try.func54, Try.ntmps54
  go_wp2
  go_ret
  exact ⟨rfl, rfl⟩
theorem dSize_no (n : Int) (w : World) (h : ¬ (128 ≤ n ∧ n ≤ 256)) : Calls Try.prog 54 #[.int .i64 n] w fun e w' => e = .returned (.bool false) ∧ w = w' := by
  have hd : n < 128 ∨ decide (n ≤ 256) = false := by
    rcases (show n < 128 ∨ (128 ≤ n ∧ 256 < n) by omega) with h | ⟨h, h2⟩
    · exact .inl h
    · exact .inr (by simp; omega)
  rcases hd with h | h2
  · go_enter Try.func54, Try.ntmps54
    go_wp2
    go_ret
    exact ⟨rfl, rfl⟩
  · have h1 : 128 ≤ n := by simp at h2; omega
    go_enter Try.func54, Try.ntmps54
    go_wp2
    go_ret
    exact ⟨rfl, rfl⟩
theorem tdiv_nat (x K : Nat) : Int.tdiv (x : Int) (K : Int) = ((x / K : Nat) : Int) := by
  rw [Int.tdiv_eq_ediv_of_nonneg (by omega)]
  simp
theorem tmod_two (x : Nat) : Int.tmod (x : Int) 2 = ((x % 2 : Nat) : Int) := by
  rw [Int.tmod_eq_emod_of_nonneg (by omega)]
  simp

set_option maxHeartbeats 1000000 in
theorem dNoughts_any (A : Option Addr) (c : Nat) (xs : List UInt8) (w : World) (hr : RV w A (bv xs)) (hx : xs.length ≤ 140737488355328) :
    Calls Try.prog 65 #[.slice A xs.length c] w fun e w' => e = .returned (.int .i64 (noughts xs : Nat)) ∧ w = w' := by
  have HR := Lib.hid hr
  clear hr
  go_enter Try.func65, Try.ntmps65
  go_wp2_with fail
  go_loopg [3, 4] xs.length (fun k n i wr => ∃ j : Nat, j + k = xs.length ∧ n = .int .i64 (noughts (xs.take j) : Nat) ∧ i = .int .i64 j ∧ wr = w)
  case atStart => exact ⟨0, by omega, rfl, rfl, rfl⟩
  case round =>
    obtain ⟨j, hj, rfl, rfl, rfl⟩ := hrel
    have HJ := Lib.hid hj
    clear hj
    by_cases hlt : j < xs.length
    · obtain ⟨ad, rfl, hcell⟩ := HR.out.at_ (k := j) (by rw [bv_length]; omega)
      have hbj : (bv xs)[j]'(by rw [bv_length]; omega) = .int .u8 (xs[j].toNat : Int) := by simp [bv]
      rw [hbj] at hcell
      have hnt := noughts_take hlt
      have hz8 : zeros xs[j] = zerosTo xs[j].toNat 8 := rfl
      have hn := noughts_le (xs.take j)
      have hb256 := xs[j].toNat_lt
      rw [List.length_take] at hn
      have hn2 : noughts (xs.take j) ≤ 1125899906842624 := by omega
      generalize noughts (xs.take j) = m at hnt hn2
      generalize zeros xs[j] = zb at hnt hz8
      generalize xs[j].toNat = x at hcell hz8 hb256
      have hx255 : (x : Int) ≤ 255 := by omega
      have HX := Lib.hid (And.intro hnt hz8)
      clear hnt hn hbj hz8
      go_wp2_with fail
      obtain ⟨wo, rfl⟩ : ∃ wo : World, wo = wr := ⟨_, rfl⟩
      go_loopg [3, 5] 8 (fun k n i wr => ∃ q : Nat, q + k = 8 ∧ n = .int .i64 ((m + zerosTo x q : Nat) : Int) ∧ i = .int .i64 ((2 ^ q : Nat) : Int) ∧ wr = wo)
      case atStart => exact ⟨0, rfl, rfl, rfl, rfl⟩
      case round =>
        obtain ⟨q, hq, rfl, rfl, rfl⟩ := hrel
        have HQ := Lib.hid hq
        by_cases hq8 : q < 8
        · have hp1 : 1 ≤ 2 ^ q := Nat.one_le_two_pow
          have hp2 : 2 ^ q ≤ 128 := Nat.pow_le_pow_right (n := 2) (j := 7) (by decide) (by omega)
          have hz := zerosTo_le x q
          have hz8 : zerosTo x q ≤ 8 := by omega
          have hs : zerosTo x (q + 1) = zerosTo x q + if x / 2 ^ q % 2 = 0 then 1 else 0 := rfl
          have hpq : 2 ^ (q + 1) = 2 * 2 ^ q := by rw [Nat.pow_succ]; omega
          generalize zerosTo x q = z at hz8 hs
          generalize 2 ^ q = K at hp1 hp2 hs hpq
          have hK : (K : Int) ≤ 128 := by omega
          have hd := tdiv_nat x K
          have hm := tmod_two (x / K)
          have hle : x / K ≤ 255 := Nat.le_trans (Nat.div_le_self _ _) (by omega)
          have hm2 : x / K % 2 < 2 := Nat.mod_lt _ (by omega)
          have HS := Lib.hid (And.intro hs hpq)
          clear hs hpq hz hq
          generalize x / K = y at hd hm hle hm2 HS
          generalize y % 2 = b at hm hm2 HS
          by_cases hb0 : b = 0
          · subst hb0
            go_wp2_with fail
            go_roundg (8 - (q + 1))
            case measure => have := HQ.out; omega
            case rel => exact ⟨q + 1, by have := HQ.out; omega, by rw [HS.out.1]; go_num, by rw [HS.out.2]; go_num, rfl⟩
          · obtain rfl : b = 1 := by omega
            go_wp2_with fail
            go_roundg (8 - (q + 1))
            case measure => have := HQ.out; omega
            case rel => exact ⟨q + 1, by have := HQ.out; omega, by rw [HS.out.1]; go_num, by rw [HS.out.2]; go_num, rfl⟩
        · obtain rfl : q = 8 := by omega
          have hz := HX.out.2
          have hz8 := zerosTo_le x 8
          rw [← hz] at hz8 ⊢
          clear hz hq
          go_wp2_with fail
          go_roundg (xs.length - (j + 1))
          case measure => have := HJ.out; omega
          case rel => exact ⟨j + 1, by have := HJ.out; omega, by rw [HX.out.1], by go_num, rfl⟩
    · have hjx : j = xs.length := by have := HJ.out; omega
      have hfin : noughts (xs.take j) = noughts xs := by rw [hjx, List.take_length]
      have HF := Lib.hid hfin
      clear hfin hjx
      go_wp2_with fail
      go_ret
      exact ⟨by rw [← HF.out]; rfl, rfl⟩

theorem dNoughts_at (A : Option Addr) (n c : Nat) (xs : List UInt8) (w : World) (hn : xs.length = n) (hr : RV w A (bv xs)) (hx : n ≤ 140737488355328) :
    Calls Try.prog 65 #[.slice A n c] w fun e w' => e = .returned (.int .i64 (noughts xs : Nat)) ∧ w = w' := by
  subst hn
  exact dNoughts_any A c xs w hr hx
end Go.Proofs.Ytckpgbkabbddnaa

/- A slice of the call's own that is not empty. -/
namespace Go.Proofs.Ytckpgbkabbddnaa
open Go.RowKit

theorem own_some {e : TypeId} {w : World} {base : Nat} {v : Value} {xs : List UInt8} (h : OwnB e w base v xs) (h0 : 0 < xs.length) :
    ∃ g full, v = .slice (some ⟨g, 0, none⟩) xs.length full.length ∧ base ≤ g ∧ RowB e w g full ∧ full.take xs.length = xs ∧ full.length ≤ maxLen := by
  rcases h with ⟨_, rfl⟩ | h
  · simp at h0
  · exact h
theorem taken_get {full xs : List UInt8} (h : full.take xs.length = xs) {j : Nat} {b : UInt8} (hj : xs[j]? = some b) : full[j]? = some b := by
  have hl := (List.getElem?_eq_some_iff.1 hj).1
  rw [← h, List.getElem?_take, if_pos hl] at hj
  exact hj

end Go.Proofs.Ytckpgbkabbddnaa

/- Layer 2: the document's Put. -/
namespace Go.Proofs.Ytckpgbkabbddnaa
open Go.RowKit

theorem dPut_bad (w : World) (s : Int) (kind : UInt8) (A : Option Addr) (c : Nat) (body : List UInt8) (h : ¬ (128 ≤ s ∧ s ≤ 256) ∨ kind.toNat < 1 ∨ 7 < kind.toNat) :
    Calls Try.prog 57 #[.int .i64 s, .int .u8 (kind.toNat : Int), .slice A body.length c] w fun e w' => e = .returned (.tuple #[.slice none 0 0, .int .i64 2]) ∧ w = w' := by
  by_cases hs : 128 ≤ s ∧ s ≤ 256
  · have hk : kind.toNat < 1 ∨ 7 < kind.toNat := by
      rcases h with h | h
      · exact absurd hs h
      · exact h
    obtain ⟨h1, h2⟩ := hs
    clear h
    generalize kind.toNat = kn at hk ⊢
    have hk' : decide ((kn : Int) < 1) = true ∨ (decide ((kn : Int) < 1) = false ∧ decide (7 < (kn : Int)) = true) := by
      by_cases hk1 : kn < 1
      · left; simp; omega
      · right; simp; omega
    rcases hk' with hk' | ⟨hk', hk2⟩
    all_goals
      go_enter Try.func57, Try.ntmps57
      go_wp2_with (go_at_call 54; refine (dSize_yes _ _ h1 h2).mono ?_; rintro e w' ⟨rfl, rfl⟩)
      go_ret2
      exact ⟨rfl, rfl⟩
  · have H := Lib.hid hs
    clear hs h
    go_enter Try.func57, Try.ntmps57
    go_wp2_with (go_at_call 54; refine (dSize_no _ _ H.out).mono ?_; rintro e w' ⟨rfl, rfl⟩)
    go_ret2
    exact ⟨rfl, rfl⟩
theorem dPut_long (w : World) (s : Int) (kind : UInt8) (A : Option Addr) (c : Nat) (body : List UInt8) (h1 : 128 ≤ s) (h2 : s ≤ 256) (hk1 : 1 ≤ kind.toNat) (hk7 : kind.toNat ≤ 7) (hb : s.toNat - 5 < body.length) (hm : body.length ≤ maxLen) :
    Calls Try.prog 57 #[.int .i64 s, .int .u8 (kind.toNat : Int), .slice A body.length c] w fun e w' => e = .returned (.tuple #[.slice none 0 0, .int .i64 3]) ∧ w = w' := by
  unfold maxLen at hm
  generalize kind.toNat = kn at hk1 hk7 ⊢
  have hlt : s - 5 < (body.length : Int) := by omega
  clear hb
  go_enter Try.func57, Try.ntmps57
  go_wp2_with (go_at_call 54; refine (dSize_yes _ _ h1 h2).mono ?_; rintro e w' ⟨rfl, rfl⟩)
  go_ret2
  exact ⟨rfl, rfl⟩

theorem head5 (kind : UInt8) (m : Nat) (hm : m ≤ 251) : (bv [0, 0, kind, UInt8.ofNat m, UInt8.ofNat (m / 256)]).toArray = #[.int .u8 0, .int .u8 0, .int .u8 (kind.toNat : Int), .int .u8 ((m : Int) % 256), .int .u8 ((m : Int) / 256)] := by
  have e1 : ((UInt8.ofNat m).toNat : Int) = (m : Int) % 256 := by rw [UInt8.toNat_ofNat']; omega
  have e2 : ((UInt8.ofNat (m / 256)).toNat : Int) = (m : Int) / 256 := by rw [UInt8.toNat_ofNat']; omega
  unfold bv
  simp only [List.map_cons, List.map_nil, e1, e2]
  rfl
theorem whole5 {s : Nat} {kind : UInt8} {body : List UInt8} : [0, 0, kind, UInt8.ofNat body.length, UInt8.ofNat (body.length / 256)] ++ body ++ List.replicate (s - 5 - body.length) 255 = 0 :: 0 :: tailS s kind body := by
  unfold tailS
  rw [digs2]
  simp

set_option maxRecDepth 100000 in
set_option maxHeartbeats 2000000 in
theorem dPut_ok (w : World) (s : Nat) (kind : UInt8) (A : Option Addr) (c : Nat) (body : List UInt8) (hr : RV w A (bv body)) (hs : 128 ≤ s) (hs2 : s ≤ 256) (hk1 : 1 ≤ kind.toNat) (hk7 : kind.toNat ≤ 7) (hb : body.length ≤ s - 5) :
    Calls Try.prog 57 #[.int .i64 s, .int .u8 (kind.toNat : Int), .slice A body.length c] w (PutPageEnd w (pageS s kind body, 0)) := by
  have HR := Lib.hid hr
  have h5 := head5 kind body.length (by omega)
  have hw5 := whole5 (s := s) (kind := kind) (body := body)
  have hN := noughts_le (tailS s kind body)
  have htl := tailS_length (kind := kind) (show isPage s from ⟨hs, hs2⟩) hb
  have hp : pageS s kind body = UInt8.ofNat (noughts (tailS s kind body)) :: UInt8.ofNat (noughts (tailS s kind body) / 256) :: tailS s kind body := by
    unfold pageS
    rw [digs2]
    rfl
  have hN2 : noughts (tailS s kind body) ≤ 2048 := by omega
  clear hr hN
  generalize hkn : kind.toNat = kn at hk1 hk7 h5 ⊢
  clear hkn
  have hbl : ¬ (s : Int) - 5 < (body.length : Int) := by omega
  generalize hm : body.length = m at *
  generalize hl5 : [0, 0, kind, UInt8.ofNat m, UInt8.ofNat (m / 256)] = L5 at *
  have hL5 : L5.length = 5 := by rw [← hl5]; rfl
  generalize tailS s kind body = T at *
  have hnt : ∀ N, noughts T = N → True := fun _ _ => trivial
  clear hnt
  have HM := Lib.hid (And.intro hm (And.intro h5 (And.intro hw5 (And.intro hp (And.intro htl hL5)))))
  clear hm h5 hw5 hp htl hL5 hl5
  generalize hNN : noughts T = N at hN2
  have HN := Lib.hid hNN
  clear hNN
  go_enter Try.func57, Try.ntmps57
  go_wp2_with (first
    | (go_at_call 54; refine (dSize_yes _ _ (by omega) (by omega)).mono ?_; rintro e w' ⟨rfl, rfl⟩)
    | (at_builtin; refine wpList_appB _ rfl _ _ 28 rfl w.heap.size 5 Try.underlying28 u8info _ L5 rfl (own_lit w 5 L5 _ HM.out.2.1 5 HM.out.2.2.2.2.2 (by decide)) _ m c body rfl HM.out.1 (HR.out.alloc _) ?_ ?_ ?_))
  · have := HM.out.1
    have := HM.out.2.2.2.2.2
    omega
  · simp
  intro v1 w1 ho1 hg1 _
  have H1 := Lib.hid (And.intro ho1 (grown_new (a := w) (g := w.heap.size) (grown_trans (World.grownBy_alloc w _ _) hg1) (Nat.le_refl _)))
  clear ho1 hg1
  go_wp2_with fail
  go_loopg [8] (s - 5 - m) (fun k v wr => ∃ j : Nat, 5 + m + j + k = s ∧ OwnB 5 wr w.heap.size v (L5 ++ body ++ List.replicate j 255) ∧ Below w.heap.size w wr)
  case atStart => exact ⟨0, by omega, by simpa using H1.out.1, H1.out.2⟩
  case round =>
    obtain ⟨j, hj, hown, hb1⟩ := hrel
    have hlen : (L5 ++ body ++ List.replicate j (255 : UInt8)).length = 5 + m + j := by
      rw [List.length_append, List.length_append, HM.out.2.2.2.2.2, HM.out.1, List.length_replicate]
    have hsnoc : L5 ++ body ++ List.replicate (j + 1) (255 : UInt8) = (L5 ++ body ++ List.replicate j 255) ++ [255] := by
      rw [List.replicate_succ', List.append_assoc, List.append_assoc, List.append_assoc]
    have hwh : 5 + m + j = s → L5 ++ body ++ List.replicate j (255 : UInt8) = 0 :: 0 :: T := fun h => by
      rw [← HM.out.2.2.1]
      congr 2
      omega
    generalize L5 ++ body ++ List.replicate j (255 : UInt8) = xs at hown hlen hsnoc hwh
    have hsz := hb1.size
    obtain ⟨A2, c2, rfl, hrv2, hlc2, hcm2, hbk2⟩ := hown.slice
    rw [hlen] at hown ⊢
    have HX := Lib.hid (And.intro hj (And.intro hown (And.intro hb1 (And.intro hsnoc (And.intro hwh hlen)))))
    clear hown hb1 hsnoc hwh hlen hrv2 hlc2 hcm2 hbk2
    by_cases hlt : 5 + m + j < s
    · have hltI : (5 : Int) + m + j < (s : Int) := by omega
      have HX1 := Lib.hid (show xs.length + 1 ≤ 140737488355328 by have := HX.out.2.2.2.2.2; omega)
      go_wp2_with (at_builtin; refine wpList_appB1 wr rfl _ _ 28 rfl w.heap.size 5 Try.underlying28 u8info (.slice A2 (5 + m + j) c2) xs rfl HX.out.2.1 (255 : Int) 255 rfl (by decide) HX1.out hsz ?_)
      intro v' w' hown' hg
      have HY := Lib.hid (And.intro hown' hg)
      clear hown' hg
      go_wp2_with fail
      go_roundg (s - (5 + m + (j + 1)))
      case measure => have := HX.out.1; omega
      case rel =>
        refine ⟨j + 1, by have := HX.out.1; omega, ?_, HX.out.2.2.1.grown HY.out.2 hsz (fun k hk => (HX.out.2.1.blk hk).1)⟩
        rw [HX.out.2.2.2.1]
        exact HY.out.1
    · have hjs : 5 + m + j = s := by have := HX.out.1; omega
      have hxs := HX.out.2.2.2.2.1 hjs
      have hown := HX.out.2.1
      rw [hjs] at hown ⊢
      subst hxs
      have hTl : T.length = s - 2 := HM.out.2.2.2.2.1
      obtain ⟨g, full, hv, hg, hrow, htk, hfm⟩ := own_some hown (by simp)
      have hl2 : (0 :: 0 :: T).length = s := by simp; omega
      rw [hl2] at hv htk
      injection hv with hA hn hc
      subst hA hc
      have hfl : s ≤ full.length := by have := congrArg List.length htk; rw [List.length_take, hl2] at this; omega
      have hrv := (hrow.rv.take s).drop 2
      rw [← bv_take, htk, ← bv_drop] at hrv
      have hrvT : RV wr (some ⟨g, 2, none⟩) (bv T) := by simpa [add_lit0] using hrv
      have hc0 : wr.cell? ⟨g, 0, none⟩ = some (.int .u8 0) := hrow.cell (b := 0) (taken_get (xs := 0 :: 0 :: T) (by rw [hl2]; exact htk) rfl)
      have hc1 : wr.cell? ⟨g, 1, none⟩ = some (.int .u8 0) := hrow.cell (b := 0) (taken_get (xs := 0 :: 0 :: T) (by rw [hl2]; exact htk) rfl)
      have hf0 := hrow.frozen 0
      have hf1 := hrow.frozen 1
      have HZ := Lib.hid (And.intro hrvT (And.intro hTl (And.intro hrow (And.intro htk hfm))))
      clear hrvT hTl hrow htk hfm hrv hown hl2 hn hlt hj
      go_wp2_with fail
      refine (dNoughts_at _ (s - 2) _ T wr HZ.out.2.1 HZ.out.1 (by omega)).mono ?_
      rintro e w' ⟨rfl, rfl⟩
      rw [HN.out]
      go_wp2_with fail
      go_ret2
      refine ⟨_, rfl, ?_, (HX.out.2.2.1.setCell (p := ⟨g, 0, none⟩) hg _).setCell (p := ⟨g, 1, none⟩) hg _⟩
      obtain ⟨_, hTl, hrow, htk, hfm⟩ := HZ.out
      have h1 : (N : Int) % 256 = ((UInt8.ofNat N).toNat : Int) := by rw [UInt8.toNat_ofNat']; omega
      have h2 : (N : Int) / 256 = ((UInt8.ofNat (N / 256)).toNat : Int) := by rw [UInt8.toNat_ofNat']; omega
      have hrow2 := (hrow.set' 0 h1).set' 1 h2
      have hl3 : (UInt8.ofNat N :: UInt8.ofNat (N / 256) :: T).length = s := by simp; omega
      dsimp only
      rw [HM.out.2.2.2.1, HN.out]
      refine .inr ⟨g, _, ?_, hg, hrow2, ?_, ?_⟩
      · rw [hl3, List.length_set, List.length_set]
        rfl
      · rw [hl3, List.take_set, List.take_set, htk]
        rfl
      · rw [List.length_set, List.length_set]
        exact hfm
theorem dPut_any (w : World) (s : Int) (kind : UInt8) (A : Option Addr) (c : Nat) (body : List UInt8) (hr : RV w A (bv body)) (hm : body.length ≤ maxLen) :
    Calls Try.prog 57 #[.int .i64 s, .int .u8 (kind.toNat : Int), .slice A body.length c] w (PutPageEnd w (putPageS s kind body)) := by
  unfold putPageS
  by_cases h : ¬ (128 ≤ s ∧ s ≤ 256) ∨ kind.toNat < 1 ∨ 7 < kind.toNat
  · rw [if_pos h]
    exact (dPut_bad w s kind A c body h).mono fun e w' ⟨he, hw⟩ => ⟨_, he, OwnB.nil _ _ _, hw ▸ Below.refl _ _⟩
  · rw [if_neg h]
    have hs : 128 ≤ s ∧ s ≤ 256 := Classical.not_not.1 (fun hn => h (.inl hn))
    have hk : 1 ≤ kind.toNat ∧ kind.toNat ≤ 7 := ⟨Nat.not_lt.1 (fun hn => h (.inr (.inl hn))), Nat.not_lt.1 (fun hn => h (.inr (.inr hn)))⟩
    by_cases hb : s.toNat - 5 < body.length
    · rw [if_pos hb]
      exact (dPut_long w s kind A c body hs.1 hs.2 hk.1 hk.2 hb hm).mono fun e w' ⟨he, hw⟩ => ⟨_, he, OwnB.nil _ _ _, hw ▸ Below.refl _ _⟩
    · rw [if_neg hb]
      obtain ⟨m, rfl⟩ : ∃ m : Nat, s = m := ⟨s.toNat, by omega⟩
      exact dPut_ok w m kind A c body hr (by omega) (by omega) hk.1 hk.2 (by simpa using Nat.not_lt.1 hb)
end Go.Proofs.Ytckpgbkabbddnaa
