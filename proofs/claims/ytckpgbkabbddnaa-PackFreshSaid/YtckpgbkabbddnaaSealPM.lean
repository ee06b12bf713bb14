import Derived.Test.YtckpgbkabbddnaaProg
import Derived.Test.YtckpgbkabbddnaaSealNM
import Derived.Test.YtckpgbkabbddnaaSealWM
import Derived.Test.YtckpgbkabbddnaaCopyBM
import Derived.Test.YtckpgbkabbddnaaMTake
import Derived.Test.YtckpgbkabbddnaaMApp
set_option linter.unusedVariables false
set_option linter.unusedSimpArgs false
/- Layer 2: contract of seal.Put. -/
namespace Go.Proofs.Ytckpgbkabbddnaa
open Go.RowKit

/-! ### Put -/
theorem isSz2 : IsSz ((2 : Nat) : Int) := .inr (.inl rfl)
/-- What the call owns from a base on reads on where an elder block is written. -/
theorem own_rv_set {e : TypeId} {w : World} {base g i : Nat} {A : Option Addr} {c : Nat} {xs : List UInt8} (h : OwnB e w base (.slice A xs.length c) xs) (hg : g < base) (u : Value) : RV (w.setCell ⟨g, i, none⟩ u) A (bv xs) := by
  obtain ⟨A', c', he, hr, _⟩ := (h.setOther hg (i := i) u).slice
  injection he with e1
  rw [e1]
  exact hr

theorem fill_page {s : Nat} (hs : 5 ≤ s) (kind : UInt8) (L body : List UInt8) (hL : L.length = 2) (hb : body.length ≤ s - 5) :
    ∃ F2 F3 : List UInt8, ((List.replicate s (255 : UInt8)).set 2 kind).take 3 ++ (L ++ ((List.replicate s (255 : UInt8)).set 2 kind).drop 5) = F2 ∧ F2.length = s ∧
      F2.take 5 ++ (body ++ F2.drop (5 + body.length)) = F3 ∧ F3.length = s ∧ F3.drop 2 = kind :: (L ++ (body ++ List.replicate (s - 5 - body.length) 255)) := by
  obtain ⟨r, rfl⟩ : ∃ r, s = 5 + r := ⟨s - 5, by omega⟩
  have e1 : (List.replicate (5 + r) (255 : UInt8)) = [255, 255, 255, 255, 255] ++ List.replicate r 255 := by rw [← List.replicate_append_replicate]; rfl
  match L, hL with
  | [l0, l1], _ =>
    refine ⟨[255, 255, kind, l0, l1] ++ List.replicate r 255, [255, 255, kind, l0, l1] ++ (body ++ List.replicate (r - body.length) 255), ?_, ?_, ?_, ?_, ?_⟩
    · rw [e1]; rfl
    · simp; omega
    · rw [List.take_left' (by rfl), ← List.drop_drop, List.drop_left' (by rfl), List.drop_replicate]
    · simp; omega
    · have e2 : 5 + r - 5 - body.length = r - body.length := by omega
      rw [e2]
      rfl


set_option maxRecDepth 100000 in
set_option maxHeartbeats 2000000 in
theorem putPage_ok (w : World) (s : Nat) (kind : UInt8) (A : Option Addr) (c : Nat) (body : List UInt8) (hr : RV w A (bv body)) (hs : 128 ≤ s) (hs2 : s ≤ 256) (hk1 : 1 ≤ kind.toNat) (hk7 : kind.toNat ≤ 7) (hb : body.length ≤ s - 5) :
    Calls Try.prog 43 #[.int .i64 s, .int .u8 (kind.toNat : Int), .slice A body.length c] w (PutPageEnd w (pageS s kind body, 0)) := by
  have hmk := make_bytes (P := Try.prog) 28 5 Try.underlying28 u8info s (by omega)
  have HR := Lib.hid hr
  have hbody : bodyS s = s - 5 := by unfold bodyS; rw [if_pos (by omega)]; simp
  have HBD := Lib.hid hbody
  clear hr hbody
  generalize hkn : kind.toNat = kn at hk1 hk7 ⊢
  have HK := Lib.hid hkn
  clear hkn
  go_enter Try.func43, Try.ntmps43
  go_wp2_with (first
    | (go_at_call 25; refine (pisSize_yes _ _ (by omega) (by omega)).mono ?_; rintro e w' ⟨rfl, rfl⟩)
    | (go_at_call 30; refine (body_any _ _).mono ?_; rintro e w' ⟨rfl, rfl⟩; rw [HBD.out]))
  go_loopg [36] s (fun k i wr => ∃ (j : Nat) (full : List UInt8), j + k = s ∧ i = .int .i64 j ∧ RowB 5 wr w.heap.size full ∧ full.length = s ∧ full.take j = (List.replicate s (255 : UInt8)).take j ∧ Below w.heap.size w wr)
  case atStart => exact ⟨0, List.replicate s 0, by omega, rfl, RowB.made w _ s, by simp, rfl, (Below.refl _ _).alloc (Nat.le_refl _) _⟩
  case round =>
    obtain ⟨j, full, hj, rfl, hrow, hl, ht, hbw⟩ := hrel
    have HX := Lib.hid (show j + gk = s ∧ full.length = s ∧ full.take j = (List.replicate s (255 : UInt8)).take j ∧ RowB 5 wr w.heap.size full ∧ Below w.heap.size w wr from ⟨hj, hl, ht, hrow, hbw⟩)
    by_cases hlt : j < s
    · have hf := hrow.frozen j
      have hcur : wr.cell? ⟨w.heap.size, j, none⟩ = some (.int .u8 ((full[j]'(by omega)).toNat : Int)) := hrow.cell (List.getElem?_eq_getElem (by omega))
      generalize (full[j]'(by omega)).toNat = old at hcur
      clear hj hl ht hrow hbw
      go_wp2_with fail
      obtain ⟨hj, hl, ht, hrow, hbw⟩ := HX.out
      go_roundg (s - (j + 1))
      case measure => omega
      case rel => exact ⟨j + 1, full.set j 255, by omega, by go_num, hrow.set' j rfl, by simpa using hl, set_take ht (by omega) (by simp [hlt]), hbw.setCell (Nat.le_refl _) _⟩
    · obtain rfl : j = s := by omega
      rw [List.take_of_length_le (by omega), List.take_of_length_le (by simp)] at ht
      subst ht
      have HY := Lib.hid (And.intro hrow hbw)
      have hge : ¬ (j : Int) < j := by omega
      have hsz := hbw.size
      have hlen64 : (body.length : Int) ≤ 251 := by omega
      have hgg : w.heap.size < wr.heap.size := hrow.lt
      clear hj hl hrow hbw HX
      go_wp2_with fail
      refine (put_ok body.length 2 wr isSz2 (by omega) (by omega)).mono ?_
      rintro e w1 ⟨v1, rfl, ho1, hb1⟩
      have hrow1 := HY.out.1.belowAll hb1
      have hf2 := hrow1.frozen 2
      have hc2 : w1.cell? ⟨w.heap.size, 2, none⟩ = some (.int .u8 255) := by
        have := hrow1.cell (j := 2) (b := 255) (by rw [List.getElem?_replicate]; simp; omega)
        simpa using this
      obtain ⟨A1, c1, rfl, hrv1, _, _, _⟩ := ho1.slice
      have hd2 := digs_length body.length 2
      generalize hL : digs body.length 2 = L at *
      have H1 := Lib.hid (And.intro hrow1 (And.intro hrv1 (And.intro (below_then HY.out.2 HY.out.2.size hb1) (And.intro hL ho1))))
      clear hrow1 hrv1 hb1 hL ho1
      have hL2 := Lib.hid hd2
      rw [hd2]
      clear hd2
      have hrowA := (H1.out.1.set' 2 (n := (kn : Int)) (b := kind) (by rw [HK.out]))
      have hrvA := own_rv_set (i := 2) H1.out.2.2.2.2 hgg (.int .u8 (kn : Int))
      have hrvB := ((HR.out.below H1.out.2.2.1)).setCell (p := ⟨w.heap.size, 2, none⟩) (fun ad e hn => Nat.ne_of_lt (HR.out.lt e hn)) (.int .u8 (kn : Int))
      have hbA := H1.out.2.2.1.setCell (p := ⟨w.heap.size, 2, none⟩) (Nat.le_refl _) (.int .u8 (kn : Int))
      have hlenA : ((List.replicate j (255 : UInt8)).set 2 kind).length = j := by simp
      obtain ⟨F2, F3, hF2, hF2l, hF3, hF3l, hF3d⟩ := fill_page (s := j) (by omega) kind L body hL2.out hb
      have HA := Lib.hid (And.intro hrowA (And.intro hrvA (And.intro hrvB (And.intro hbA (And.intro hlenA (And.intro hF2 (And.intro hF3 hF3d)))))))
      have HFl := Lib.hid (And.intro hF2l hF3l)
      clear hrowA hrvA hrvB hbA hlenA hF2 hF3 hF3d hF2l hF3l
      have hLl : L.length = 2 := hL2.out
      go_wp2_with (with_reducible refine wpList_copyB rfl (.tmp 54) (.tmp 55) 28 rfl 5 Try.underlying28 u8info w.heap.size 3 _ _ 2 c1 A1 rfl rfl _ HA.out.1 L hL2.out HA.out.2.1 ?_ ?_ w.heap.size w HA.out.2.2.2.1 (Nat.le_refl _) ?_)
      · omega
      · simp
        omega
      intro w2 hrow2 hb2
      rw [HA.out.2.2.2.2.2.1] at hrow2
      have H2 := Lib.hid (And.intro hrow2 (And.intro (HR.out.below hb2) hb2))
      clear hrow2 hb2
      go_wp2_with (with_reducible refine wpList_copyB rfl (.tmp 58) (.tmp 59) 28 rfl 5 Try.underlying28 u8info w.heap.size 5 _ _ body.length c A rfl rfl _ H2.out.1 body rfl H2.out.2.1 ?_ ?_ w.heap.size w H2.out.2.2 (Nat.le_refl _) ?_)
      · omega
      · have := HFl.out.1
        omega
      intro w3 hrow3 hb3
      rw [HA.out.2.2.2.2.2.2.1] at hrow3
      have hsz3 : w.heap.size < w3.heap.size := hrow3.lt
      have htail : F3.drop 2 = tailS j kind body := by rw [HA.out.2.2.2.2.2.2.2, tailS, H1.out.2.2.2.1]
      have hrv3 := hrow3.rvAt 2
      rw [htail] at hrv3
      have htl : (tailS j kind body).length = j - 2 := by rw [← htail, List.length_drop, HFl.out.2]
      have hN := noughts_le (tailS j kind body)
      have H3 := Lib.hid (And.intro hrow3 (And.intro hrv3 (And.intro hb3 (And.intro htail htl))))
      have hN2 : noughts (tailS j kind body) ≤ 2048 := by omega
      clear hrow3 hrv3 hb3 htail htl hN
      generalize hNN : noughts (tailS j kind body) = N at hN2
      have HN := Lib.hid hNN
      clear hNN
      go_wp2_with fail
      refine (noughts_at _ (j - 2) _ (tailS j kind body) w3 H3.out.2.2.2.2 H3.out.2.1 (by omega)).mono ?_
      rintro e w' ⟨rfl, rfl⟩
      rw [HN.out]
      go_wp2_with fail
      refine (put_ok N 2 w3 isSz2 (by omega) (by omega)).mono ?_
      rintro e w4 ⟨v4, rfl, ho4, hb4⟩
      obtain ⟨A4, c4, rfl, hrv4, _, _, _⟩ := ho4.slice
      have hd4 := digs_length N 2
      generalize hC : digs N 2 = C at *
      have H4 := Lib.hid (And.intro (H3.out.1.belowAll hb4) (And.intro hrv4 (And.intro (below_then H3.out.2.2.1 H3.out.2.2.1.size hb4) hC)))
      have hC2 := Lib.hid hd4
      rw [hd4]
      clear hrv4 hb4 hC hd4 ho4
      go_wp2_with (with_reducible refine wpList_copyB rfl (.tmp 69) (.tmp 70) 28 rfl 5 Try.underlying28 u8info w.heap.size 0 _ _ 2 c4 A4 rfl rfl _ H4.out.1 C hC2.out H4.out.2.1 ?_ ?_ w.heap.size w H4.out.2.2.1 (Nat.le_refl _) ?_)
      · omega
      · have := HFl.out.2
        omega
      intro w5 hrow5 hb5
      have hpage : C ++ F3.drop 2 = pageS j kind body := by
        rw [H3.out.2.2.2.1, ← H4.out.2.2.2, pageS, HN.out]
      rw [hpage] at hrow5
      have hpl : (pageS j kind body).length = j := by
        rw [← hpage, List.length_append, hC2.out, List.length_drop, HFl.out.2]
        omega
      have H5 := Lib.hid (And.intro hrow5 (And.intro hb5 hpl))
      clear hrow5 hb5 hpage hpl
      go_wp2_with fail
      go_ret2
      have hw := OwnB.whole (base := w.heap.size) (Nat.le_refl _) H5.out.1 (by rw [H5.out.2.2]; unfold maxLen; omega)
      rw [H5.out.2.2] at hw
      exact ⟨_, rfl, hw, H5.out.2.1⟩

theorem putPage_bad (w : World) (s : Int) (kind : UInt8) (A : Option Addr) (c : Nat) (body : List UInt8) (h : ¬ (128 ≤ s ∧ s ≤ 256) ∨ kind.toNat < 1 ∨ 7 < kind.toNat) :
    Calls Try.prog 43 #[.int .i64 s, .int .u8 (kind.toNat : Int), .slice A body.length c] w fun e w' => e = .returned (.tuple #[.slice none 0 0, .int .i64 2]) ∧ w = w' := by
  by_cases hs : 128 ≤ s ∧ s ≤ 256
  · have hk : kind.toNat < 1 ∨ 7 < kind.toNat := by
      rcases h with h | h
      · exact absurd hs h
      · exact h
    obtain ⟨h1, h2⟩ := hs
    clear h
    generalize kind.toNat = kn at hk ⊢
    have hk' : decide ((kn : Int) < 1) = true ∨ (decide ((kn : Int) < 1) = false ∧ decide (7 < (kn : Int)) = true) := by
      by_cases hk1 : kn < 1
      · left; simp; omega
      · right; simp; omega
    rcases hk' with hk' | ⟨hk', hk2⟩
    all_goals
      go_enter Try.func43, Try.ntmps43
      go_wp2_with (go_at_call 25; refine (pisSize_yes _ _ h1 h2).mono ?_; rintro e w' ⟨rfl, rfl⟩)
      go_ret2
      exact ⟨rfl, rfl⟩
  · have H := Lib.hid hs
    clear hs h
    go_enter Try.func43, Try.ntmps43
    go_wp2_with (go_at_call 25; refine (pisSize_no _ _ H.out).mono ?_; rintro e w' ⟨rfl, rfl⟩)
    go_ret2
    exact ⟨rfl, rfl⟩
theorem putPage_long (w : World) (s : Int) (kind : UInt8) (A : Option Addr) (c : Nat) (body : List UInt8) (h1 : 128 ≤ s) (h2 : s ≤ 256) (hk1 : 1 ≤ kind.toNat) (hk7 : kind.toNat ≤ 7) (hb : s.toNat - 5 < body.length) (hm : body.length ≤ maxLen) :
    Calls Try.prog 43 #[.int .i64 s, .int .u8 (kind.toNat : Int), .slice A body.length c] w fun e w' => e = .returned (.tuple #[.slice none 0 0, .int .i64 3]) ∧ w = w' := by
  unfold maxLen at hm
  have hbody : bodyS s = s.toNat - 5 := by unfold bodyS; rw [if_pos ⟨h1, h2⟩]
  have HBD := Lib.hid hbody
  clear hbody
  generalize kind.toNat = kn at hk1 hk7 ⊢
  generalize hbs : s.toNat - 5 = m at hb HBD
  clear hbs
  go_enter Try.func43, Try.ntmps43
  go_wp2_with (first
    | (go_at_call 25; refine (pisSize_yes _ _ h1 h2).mono ?_; rintro e w' ⟨rfl, rfl⟩)
    | (go_at_call 30; refine (body_any _ _).mono ?_; rintro e w' ⟨rfl, rfl⟩; rw [HBD.out]))
  go_ret2
  exact ⟨rfl, rfl⟩
theorem putPage_any (w : World) (s : Int) (kind : UInt8) (A : Option Addr) (c : Nat) (body : List UInt8) (hr : RV w A (bv body)) (hm : body.length ≤ maxLen) :
    Calls Try.prog 43 #[.int .i64 s, .int .u8 (kind.toNat : Int), .slice A body.length c] w (PutPageEnd w (putPageS s kind body)) := by
  unfold putPageS
  by_cases h : ¬ (128 ≤ s ∧ s ≤ 256) ∨ kind.toNat < 1 ∨ 7 < kind.toNat
  · rw [if_pos h]
    exact (putPage_bad w s kind A c body h).mono fun e w' ⟨he, hw⟩ => ⟨_, he, OwnB.nil _ _ _, hw ▸ Below.refl _ _⟩
  · rw [if_neg h]
    have hs : 128 ≤ s ∧ s ≤ 256 := Classical.not_not.1 (fun hn => h (.inl hn))
    have hk : 1 ≤ kind.toNat ∧ kind.toNat ≤ 7 := ⟨Nat.not_lt.1 (fun hn => h (.inr (.inl hn))), Nat.not_lt.1 (fun hn => h (.inr (.inr hn)))⟩
    by_cases hb : s.toNat - 5 < body.length
    · rw [if_pos hb]
      exact (putPage_long w s kind A c body hs.1 hs.2 hk.1 hk.2 hb hm).mono fun e w' ⟨he, hw⟩ => ⟨_, he, OwnB.nil _ _ _, hw ▸ Below.refl _ _⟩
    · rw [if_neg hb]
      obtain ⟨m, rfl⟩ : ∃ m : Nat, s = m := ⟨s.toNat, by omega⟩
      exact putPage_ok w m kind A c body hr (by omega) (by omega) hk.1 hk.2 (by simpa using Nat.not_lt.1 hb)
end Go.Proofs.Ytckpgbkabbddnaa
