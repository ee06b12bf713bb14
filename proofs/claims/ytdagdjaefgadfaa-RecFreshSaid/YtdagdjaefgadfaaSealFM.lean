import Derived.Test.YtdagdjaefgadfaaSealDNM
import Derived.Test.YtdagdjaefgadfaaMSealA
import Derived.Test.YtdagdjaefgadfaaByteM
import Derived.Test.YtdagdjaefgadfaaOwnKM
import Derived.Test.YtdagdjaefgadfaaMApp
set_option linter.unusedVariables false
set_option linter.unusedSimpArgs false
/- Layer 2: the document's Put. -/
namespace Go.Proofs.Ytdagdjaefgadfaa
open Go.RowKit

theorem dPut_bad (w : World) (s : Int) (kind : UInt8) (A : Option Addr) (c : Nat) (body : List UInt8) (h : ¬ (128 ≤ s ∧ s ≤ 256) ∨ kind.toNat < 1 ∨ 7 < kind.toNat) :
    Calls Try.prog 43 #[.int .i64 s, .int .u8 (kind.toNat : Int), .slice A body.length c] w fun e w' => e = .returned (.tuple #[.slice none 0 0, .int .i64 2]) ∧ w = w' := by
  by_cases hs : 128 ≤ s ∧ s ≤ 256
  · have hk : kind.toNat < 1 ∨ 7 < kind.toNat := by
      rcases h with h | h
      · exact absurd hs h
      · exact h
    obtain ⟨h1, h2⟩ := hs
    clear h
    generalize kind.toNat = kn at hk ⊢
    have hk' : decide ((kn : Int) < 1) = true ∨ (decide ((kn : Int) < 1) = false ∧ decide (7 < (kn : Int)) = true) := by
      by_cases hk1 : kn < 1
      · left; simp; omega
      · right; simp; omega
    rcases hk' with hk' | ⟨hk', hk2⟩
    all_goals
      go_enter Try.func43, Try.ntmps43
      go_wp2_with (go_at_call 57; refine (dSize_yes _ _ h1 h2).mono ?_; rintro e w' ⟨rfl, rfl⟩)
      go_ret2
      exact ⟨rfl, rfl⟩
  · have H := Lib.hid hs
    clear hs h
    go_enter Try.func43, Try.ntmps43
    go_wp2_with (go_at_call 57; refine (dSize_no _ _ H.out).mono ?_; rintro e w' ⟨rfl, rfl⟩)
    go_ret2
    exact ⟨rfl, rfl⟩
theorem dPut_long (w : World) (s : Int) (kind : UInt8) (A : Option Addr) (c : Nat) (body : List UInt8) (h1 : 128 ≤ s) (h2 : s ≤ 256) (hk1 : 1 ≤ kind.toNat) (hk7 : kind.toNat ≤ 7) (hb : s.toNat - 5 < body.length) (hm : body.length ≤ maxLen) :
    Calls Try.prog 43 #[.int .i64 s, .int .u8 (kind.toNat : Int), .slice A body.length c] w fun e w' => e = .returned (.tuple #[.slice none 0 0, .int .i64 3]) ∧ w = w' := by
  unfold maxLen at hm
  generalize kind.toNat = kn at hk1 hk7 ⊢
  have hlt : s - 5 < (body.length : Int) := by omega
  clear hb
  go_enter Try.func43, Try.ntmps43
  go_wp2_with (go_at_call 57; refine (dSize_yes _ _ h1 h2).mono ?_; rintro e w' ⟨rfl, rfl⟩)
  go_ret2
  exact ⟨rfl, rfl⟩

theorem head5 (kind : UInt8) (m : Nat) (hm : m ≤ 251) : (bv [0, 0, kind, UInt8.ofNat m, UInt8.ofNat (m / 256)]).toArray = #[.int .u8 0, .int .u8 0, .int .u8 (kind.toNat : Int), .int .u8 ((m : Int) % 256), .int .u8 ((m : Int) / 256)] := by
  have e1 : ((UInt8.ofNat m).toNat : Int) = (m : Int) % 256 := by rw [UInt8.toNat_ofNat']; omega
  have e2 : ((UInt8.ofNat (m / 256)).toNat : Int) = (m : Int) / 256 := by rw [UInt8.toNat_ofNat']; omega
  unfold bv
  simp only [List.map_cons, List.map_nil, e1, e2]
  rfl
theorem whole5 {s : Nat} {kind : UInt8} {body : List UInt8} : [0, 0, kind, UInt8.ofNat body.length, UInt8.ofNat (body.length / 256)] ++ body ++ List.replicate (s - 5 - body.length) 255 = 0 :: 0 :: tailS s kind body := by
  unfold tailS
  rw [digs2]
  simp

set_option maxRecDepth 100000 in
set_option maxHeartbeats 2000000 in
theorem dPut_ok (w : World) (s : Nat) (kind : UInt8) (A : Option Addr) (c : Nat) (body : List UInt8) (hr : RV w A (bv body)) (hs : 128 ≤ s) (hs2 : s ≤ 256) (hk1 : 1 ≤ kind.toNat) (hk7 : kind.toNat ≤ 7) (hb : body.length ≤ s - 5) :
    Calls Try.prog 43 #[.int .i64 s, .int .u8 (kind.toNat : Int), .slice A body.length c] w (PutPageEnd w (pageS s kind body, 0)) := by
  have HR := Lib.hid hr
  have h5 := head5 kind body.length (by omega)
  have hw5 := whole5 (s := s) (kind := kind) (body := body)
  have hN := noughts_le (tailS s kind body)
  have htl := tailS_length (kind := kind) (show isPage s from ⟨hs, hs2⟩) hb
  have hp : pageS s kind body = UInt8.ofNat (noughts (tailS s kind body)) :: UInt8.ofNat (noughts (tailS s kind body) / 256) :: tailS s kind body := by
    unfold pageS
    rw [digs2]
    rfl
  have hN2 : noughts (tailS s kind body) ≤ 2048 := by omega
  clear hr hN
  generalize hkn : kind.toNat = kn at hk1 hk7 h5 ⊢
  clear hkn
  have hbl : ¬ (s : Int) - 5 < (body.length : Int) := by omega
  generalize hm : body.length = m at *
  generalize hl5 : [0, 0, kind, UInt8.ofNat m, UInt8.ofNat (m / 256)] = L5 at *
  have hL5 : L5.length = 5 := by rw [← hl5]; rfl
  generalize tailS s kind body = T at *
  have hnt : ∀ N, noughts T = N → True := fun _ _ => trivial
  clear hnt
  have HM := Lib.hid (And.intro hm (And.intro h5 (And.intro hw5 (And.intro hp (And.intro htl hL5)))))
  clear hm h5 hw5 hp htl hL5 hl5
  generalize hNN : noughts T = N at hN2
  have HN := Lib.hid hNN
  clear hNN
  go_enter Try.func43, Try.ntmps43
  go_wp2_with (first
    | (go_at_call 57; refine (dSize_yes _ _ (by omega) (by omega)).mono ?_; rintro e w' ⟨rfl, rfl⟩)
    | (at_builtin; refine wpList_appB _ rfl _ _ 22 rfl w.heap.size 5 Try.underlying22 u8info _ L5 rfl (own_lit w 5 L5 _ HM.out.2.1 5 HM.out.2.2.2.2.2 (by decide)) _ m c body rfl HM.out.1 (HR.out.alloc _) ?_ ?_ ?_))
  · have := HM.out.1
    have := HM.out.2.2.2.2.2
    omega
  · simp
  intro v1 w1 ho1 hg1 _
  have H1 := Lib.hid (And.intro ho1 (grown_new (a := w) (g := w.heap.size) (grown_trans (World.grownBy_alloc w _ _) hg1) (Nat.le_refl _)))
  clear ho1 hg1
  go_wp2_with fail
  go_loopg [8] (s - 5 - m) (fun k v wr => ∃ j : Nat, 5 + m + j + k = s ∧ OwnB 5 wr w.heap.size v (L5 ++ body ++ List.replicate j 255) ∧ Below w.heap.size w wr)
  case atStart => exact ⟨0, by omega, by simpa using H1.out.1, H1.out.2⟩
  case round =>
    obtain ⟨j, hj, hown, hb1⟩ := hrel
    have hlen : (L5 ++ body ++ List.replicate j (255 : UInt8)).length = 5 + m + j := by
      rw [List.length_append, List.length_append, HM.out.2.2.2.2.2, HM.out.1, List.length_replicate]
    have hsnoc : L5 ++ body ++ List.replicate (j + 1) (255 : UInt8) = (L5 ++ body ++ List.replicate j 255) ++ [255] := by
      rw [List.replicate_succ', List.append_assoc, List.append_assoc, List.append_assoc]
    have hwh : 5 + m + j = s → L5 ++ body ++ List.replicate j (255 : UInt8) = 0 :: 0 :: T := fun h => by
      rw [← HM.out.2.2.1]
      congr 2
      omega
    generalize L5 ++ body ++ List.replicate j (255 : UInt8) = xs at hown hlen hsnoc hwh
    have hsz := hb1.size
    obtain ⟨A2, c2, rfl, hrv2, hlc2, hcm2, hbk2⟩ := hown.slice
    rw [hlen] at hown ⊢
    have HX := Lib.hid (And.intro hj (And.intro hown (And.intro hb1 (And.intro hsnoc (And.intro hwh hlen)))))
    clear hown hb1 hsnoc hwh hlen hrv2 hlc2 hcm2 hbk2
    by_cases hlt : 5 + m + j < s
    · have hltI : (5 : Int) + m + j < (s : Int) := by omega
      have HX1 := Lib.hid (show xs.length + 1 ≤ 140737488355328 by have := HX.out.2.2.2.2.2; omega)
      go_wp2_with (at_builtin; refine wpList_appB1 wr rfl _ _ 22 rfl w.heap.size 5 Try.underlying22 u8info (.slice A2 (5 + m + j) c2) xs rfl HX.out.2.1 (255 : Int) 255 rfl (by decide) HX1.out hsz ?_)
      intro v' w' hown' hg
      have HY := Lib.hid (And.intro hown' hg)
      clear hown' hg
      go_wp2_with fail
      go_roundg (s - (5 + m + (j + 1)))
      case measure => have := HX.out.1; omega
      case rel =>
        refine ⟨j + 1, by have := HX.out.1; omega, ?_, HX.out.2.2.1.grown HY.out.2 hsz (fun k hk => (HX.out.2.1.blk hk).1)⟩
        rw [HX.out.2.2.2.1]
        exact HY.out.1
    · have hjs : 5 + m + j = s := by have := HX.out.1; omega
      have hxs := HX.out.2.2.2.2.1 hjs
      have hown := HX.out.2.1
      rw [hjs] at hown ⊢
      subst hxs
      have hTl : T.length = s - 2 := HM.out.2.2.2.2.1
      obtain ⟨g, full, hv, hg, hrow, htk, hfm⟩ := own_some hown (by simp)
      have hl2 : (0 :: 0 :: T).length = s := by simp; omega
      rw [hl2] at hv htk
      injection hv with hA hn hc
      subst hA hc
      have hfl : s ≤ full.length := by have := congrArg List.length htk; rw [List.length_take, hl2] at this; omega
      have hrv := (hrow.rv.take s).drop 2
      rw [← bv_take, htk, ← bv_drop] at hrv
      have hrvT : RV wr (some ⟨g, 2, none⟩) (bv T) := by simpa [add_lit0] using hrv
      have hc0 : wr.cell? ⟨g, 0, none⟩ = some (.int .u8 0) := hrow.cell (b := 0) (taken_get (xs := 0 :: 0 :: T) (by rw [hl2]; exact htk) rfl)
      have hc1 : wr.cell? ⟨g, 1, none⟩ = some (.int .u8 0) := hrow.cell (b := 0) (taken_get (xs := 0 :: 0 :: T) (by rw [hl2]; exact htk) rfl)
      have hf0 := hrow.frozen 0
      have hf1 := hrow.frozen 1
      have HZ := Lib.hid (And.intro hrvT (And.intro hTl (And.intro hrow (And.intro htk hfm))))
      clear hrvT hTl hrow htk hfm hrv hown hl2 hn hlt hj
      go_wp2_with fail
      refine (dNoughts_at _ (s - 2) _ T wr HZ.out.2.1 HZ.out.1 (by omega)).mono ?_
      rintro e w' ⟨rfl, rfl⟩
      rw [HN.out]
      go_wp2_with fail
      go_ret2
      refine ⟨_, rfl, ?_, (HX.out.2.2.1.setCell (p := ⟨g, 0, none⟩) hg _).setCell (p := ⟨g, 1, none⟩) hg _⟩
      obtain ⟨_, hTl, hrow, htk, hfm⟩ := HZ.out
      have h1 : (N : Int) % 256 = ((UInt8.ofNat N).toNat : Int) := by rw [UInt8.toNat_ofNat']; omega
      have h2 : (N : Int) / 256 = ((UInt8.ofNat (N / 256)).toNat : Int) := by rw [UInt8.toNat_ofNat']; omega
      have hrow2 := (hrow.set' 0 h1).set' 1 h2
      have hl3 : (UInt8.ofNat N :: UInt8.ofNat (N / 256) :: T).length = s := by simp; omega
      dsimp only
      rw [HM.out.2.2.2.1, HN.out]
      refine .inr ⟨g, _, ?_, hg, hrow2, ?_, ?_⟩
      · rw [hl3, List.length_set, List.length_set]
        rfl
      · rw [hl3, List.take_set, List.take_set, htk]
        rfl
      · rw [List.length_set, List.length_set]
        exact hfm
theorem dPut_any (w : World) (s : Int) (kind : UInt8) (A : Option Addr) (c : Nat) (body : List UInt8) (hr : RV w A (bv body)) (hm : body.length ≤ maxLen) :
    Calls Try.prog 43 #[.int .i64 s, .int .u8 (kind.toNat : Int), .slice A body.length c] w (PutPageEnd w (putPageS s kind body)) := by
  unfold putPageS
  by_cases h : ¬ (128 ≤ s ∧ s ≤ 256) ∨ kind.toNat < 1 ∨ 7 < kind.toNat
  · rw [if_pos h]
    exact (dPut_bad w s kind A c body h).mono fun e w' ⟨he, hw⟩ => ⟨_, he, OwnB.nil _ _ _, hw ▸ Below.refl _ _⟩
  · rw [if_neg h]
    have hs : 128 ≤ s ∧ s ≤ 256 := Classical.not_not.1 (fun hn => h (.inl hn))
    have hk : 1 ≤ kind.toNat ∧ kind.toNat ≤ 7 := ⟨Nat.not_lt.1 (fun hn => h (.inr (.inl hn))), Nat.not_lt.1 (fun hn => h (.inr (.inr hn)))⟩
    by_cases hb : s.toNat - 5 < body.length
    · rw [if_pos hb]
      exact (dPut_long w s kind A c body hs.1 hs.2 hk.1 hk.2 hb hm).mono fun e w' ⟨he, hw⟩ => ⟨_, he, OwnB.nil _ _ _, hw ▸ Below.refl _ _⟩
    · rw [if_neg hb]
      obtain ⟨m, rfl⟩ : ∃ m : Nat, s = m := ⟨s.toNat, by omega⟩
      exact dPut_ok w m kind A c body hr (by omega) (by omega) hk.1 hk.2 (by simpa using Nat.not_lt.1 hb)
end Go.Proofs.Ytdagdjaefgadfaa
