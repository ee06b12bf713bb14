import Derived.Test.YtlioclicopakbaaDLensM
import Derived.Test.YtlioclicopakbaaEndKM
import Derived.Test.YtlioclicopakbaaShSM
import Derived.Test.YtlioclicopakbaaMInt
set_option linter.unusedVariables false
set_option linter.unusedSimpArgs false
/- Layer 16, the document's: is a key an end; the first node. -/
namespace Go.Proofs.Ytlioclicopakbaa
open Go.RowKit

set_option maxRecDepth 100000 in
set_option maxHeartbeats 1000000 in
theorem dEndK_any (w : World) (k : Ky) (hs : k.name.size ≤ maxLen) :
    Calls Try.prog 15 #[k.val] w fun e w' => e = .returned (.bool (endS k)) ∧ Below w.heap.size w w' := by
  have HC := Lib.hid (fun w => dPutKey_any w k hs)
  obtain ⟨r, hr⟩ : ∃ r, endS k = r := ⟨_, rfl⟩
  have HR := Lib.hid hr
  rw [hr]
  clear hr
  obtain ⟨⟨kb, ce⟩, hp⟩ : ∃ p, putKeyS k = p := ⟨_, rfl⟩
  rw [hp] at HC
  have hcase : (ce = 0 ∧ kb.length ≤ 16 ∧ r = decide (sumB kb % 4 = 3)) ∨ (ce = 2 ∧ kb = [] ∧ r = false) := by
    unfold putKeyS at hp
    have hr := HR.out
    unfold endS at hr
    split at hp
    · rename_i h
      obtain ⟨rfl, rfl⟩ := Prod.mk.inj hp
      exact .inl ⟨rfl, (keyB_length h).2, by rw [← hr, decide_eq_true h, Bool.true_and]⟩
    · rename_i h
      obtain ⟨rfl, rfl⟩ := Prod.mk.inj hp
      exact .inr ⟨rfl, rfl, by rw [← hr, decide_eq_false h, Bool.false_and]⟩
  clear hp HR
  obtain ⟨i, a, s, c⟩ := k
  unfold Ky.val at HC ⊢
  dsimp only at HC ⊢
  generalize (a.toNat : Int) = n at *
  obtain ⟨m, hm⟩ : ∃ m, kb.length = m := ⟨_, rfl⟩
  have HM := Lib.hid (And.intro hm hcase)
  rw [hm] at hcase
  have hm16 : m ≤ 16 := by
    rcases hcase with h | h
    · exact h.2.1
    · rw [← hm, h.2.1]; simp
  have hce : ce ≤ 2 := by omega
  clear hm hcase
  go_enter Try.func15, Try.ntmps15
  go_wp2_with (go_at_call 36; refine (HC.out _).mono ?_; rintro e w1 ⟨v1, rfl, ho1, hb1⟩; obtain ⟨A1, c1, rfl, hrv1, _, _, _⟩ := ho1.slice; dsimp only at hrv1 ⊢; rw [HM.out.1]; have H1 := Lib.hid (And.intro hrv1 (below_new hb1)); clear hb1 ho1 hrv1)
  go_loopg [5, 6] m (fun k t i wr => ∃ j : Nat, j + k = m ∧ i = .int .i64 j ∧ t = .int .i64 (sumB (kb.take j) : Int) ∧ wr = w1)
  case atStart => exact ⟨0, by omega, rfl, rfl, rfl⟩
  case round =>
    obtain ⟨j, hj, rfl, rfl, rfl⟩ := hrel
    have hsum := sumB_le (kb.take j)
    rw [List.length_take] at hsum
    have hs2 : sumB (kb.take j) ≤ 4080 := by have := HM.out.1; omega
    clear hsum
    by_cases hlt : j < m
    · obtain ⟨b, hbb⟩ : ∃ b, kb[j]? = some b := ⟨_, List.getElem?_eq_getElem (by have := HM.out.1; omega)⟩
      obtain ⟨ad, hA, hcell⟩ := H1.out.1 (by rw [bv_length]; have := HM.out.1; omega)
      have c0 := hcell j (.int .u8 (b.toNat : Int)) (by unfold bv; rw [List.getElem?_map, hbb]; rfl)
      subst hA
      have hb255 := b.toNat_lt
      have HS := Lib.hid (And.intro (sumB_step hbb) hj)
      have hjm : (j : Int) < (m : Int) := by omega
      clear hcell hbb hj
      generalize hsj : sumB (kb.take j) = sj at *
      generalize hbn : b.toNat = bn at *
      clear hsj hbn
      go_wp2_with fail
      go_roundg (m - (j + 1))
      case measure => have := HS.out.2; omega
      case rel => exact ⟨j + 1, by have := HS.out.2; omega, by go_num, by rw [HS.out.1]; go_num, rfl⟩
    · obtain rfl : j = m := by omega
      have hge : ¬ (j : Int) < (j : Int) := by omega
      have htk : kb.take j = kb := List.take_of_length_le (by have := HM.out.1; omega)
      rw [htk] at hs2 ⊢
      clear htk hj
      rcases HM.out.2 with ⟨hc0, _, hr⟩ | ⟨hc2, _, hr⟩
      · subst hc0
        have hrem : Int.tmod (sumB kb : Int) 4 = ((sumB kb % 4 : Nat) : Int) := by rw [Int.tmod_eq_emod_of_nonneg (by omega)]; simp
        have hrem2 : (sumB kb : Int) % 4 = ((sumB kb % 4 : Nat) : Int) := by simp
        have HRR := Lib.hid hr
        clear hr
        have hq4 : sumB kb % 4 < 4 := Nat.mod_lt _ (by decide)
        generalize hq : sumB kb % 4 = q at *
        generalize sumB kb = S at *
        clear hq
        by_cases h3 : q = 3
        · have hd : r = true := by rw [HRR.out]; exact decide_eq_true h3
          have HD := Lib.hid hd
          have h3' : ((q : Int) == 3) = true := by rw [h3]; rfl
          clear hd h3
          go_wp2_with fail
          go_ret
          rw [HD.out]
          exact ⟨rfl, H1.out.2⟩
        · have hd : r = false := by rw [HRR.out]; exact decide_eq_false h3
          have HD := Lib.hid hd
          have h3' : ((q : Int) == 3) = false := beq_eq_false_iff_ne.2 (by omega)
          clear hd h3
          go_wp2_with fail
          go_ret
          rw [HD.out]
          exact ⟨rfl, H1.out.2⟩
      · subst hc2
        have HRR := Lib.hid hr
        clear hr
        go_wp2_with fail
        go_ret
        rw [HRR.out]
        exact ⟨rfl, H1.out.2⟩

/-! ### the first node -/
def fstGo (least : Nat) : List (Ky × Nat) → Nat → Nat → Nat
  | [], m, _ => m
  | (k, c) :: r, m, left => if m < 255 ∧ c ≤ left then (if least ≤ m + 1 ∧ endS k = true then m + 1 else fstGo least r (m + 1) (left - c)) else m
theorem fstGo_bd {least : Nat} : ∀ (its : List (Ky × Nat)) (m left : Nat), m ≤ fstGo least its m left ∧ fstGo least its m left ≤ m + its.length
  | [], m, left => by simp [fstGo]
  | (k, c) :: r, m, left => by
    have ih := fstGo_bd (least := least) r (m + 1) (left - c)
    rw [fstGo, List.length_cons]
    split
    · split <;> omega
    · omega
theorem fstGo_pos {least : Nat} {k : Ky} {c : Nat} {r : List (Ky × Nat)} {left : Nat} (h : c ≤ left) : 1 ≤ fstGo least ((k, c) :: r) 0 left := by
  have := fstGo_bd (least := least) r 1 (left - c)
  rw [fstGo, if_pos ⟨by decide, h⟩]
  split
  · omega
  · simpa using this.1
theorem shGo_fst {R least : Nat} : ∀ (its : List (Ky × Nat)) (m left : Nat), (∀ it ∈ its, it.2 ≤ R) → m ≤ 255 → (m = 0 → left = R ∧ its ≠ []) →
    shGo R least its m left = (shGo R least (its.drop (fstGo least its m left - m)) 0 R).map (fstGo least its m left :: ·)
  | [], m, left, _, _, h0 => by
    have hm : 0 < m := Nat.pos_of_ne_zero fun h => (h0 h).2 rfl
    simp [shGo, fstGo, hm]
  | (k, c) :: r, m, left, hall, h255, h0 => by
    have hc : c ≤ R := hall (k, c) (by simp)
    have hr : ∀ it ∈ r, it.2 ≤ R := fun it hi => hall it (by simp [hi])
    have ih := shGo_fst (least := least) r (m + 1) (left - c) hr
    have hb := fstGo_bd (least := least) r (m + 1) (left - c)
    rw [shGo, if_neg (by omega)]
    by_cases hf : left < c ∨ m = 255
    · have ef : fstGo least ((k, c) :: r) m left = m := by rw [fstGo, if_neg (by omega)]
      have e0 : shGo R least ((k, c) :: r) 0 R = if least ≤ 0 + 1 ∧ endS k = true then (shGo R least r 0 R).map ((0 + 1) :: ·) else shGo R least r (0 + 1) (R - c) := by rw [shGo, if_neg (by omega), if_neg (by omega)]
      rw [if_pos hf, ef, Nat.sub_self, List.drop_zero, e0]
      by_cases he : least ≤ 1 ∧ endS k = true
      · rw [if_pos he, if_pos ⟨by omega, he.2⟩]
        simp [Option.map_map, Function.comp_def]
      · rw [if_neg he, if_neg fun h => he ⟨by omega, h.2⟩]
    · have ef : fstGo least ((k, c) :: r) m left = if least ≤ m + 1 ∧ endS k = true then m + 1 else fstGo least r (m + 1) (left - c) := by rw [fstGo, if_pos (by omega)]
      rw [if_neg hf, ef]
      by_cases he : least ≤ m + 1 ∧ endS k = true
      · rw [if_pos he, if_pos he, show m + 1 - m = 1 by omega]
        rfl
      · rw [if_neg he, if_neg he, ih (by omega) (fun h => by omega)]
        rw [show fstGo least r (m + 1) (left - c) - m = (fstGo least r (m + 1) (left - c) - (m + 1)) + 1 by omega, List.drop_succ_cons]

set_option maxRecDepth 100000 in
set_option maxHeartbeats 2000000 in
theorem dFirst_any (w : World) (left : Nat) (B : Option Addr) (A : Option Addr) (n d e : Nat) (its : List (Ky × Nat)) (least : Nat) (h : KeysIn w A n (its.map (·.1))) (hl : RV w B (iv (its.map (·.2)))) (hleft : left ≤ 250) (hn : n ≤ 140737488351232) :
    Calls Try.prog 48 #[.int .i64 (left : Int), .slice B n e, .slice A n d, .int .i64 (least : Int)] w fun e w' => e = .returned (.int .i64 (fstGo least its 0 left : Int)) ∧ Below w.heap.size w w' := by
  have hlen : its.length = n := by have := h.1; simpa using this
  obtain ⟨F, hF⟩ : ∃ F, fstGo least its 0 left = F := ⟨_, rfl⟩
  rw [hF]
  have H := Lib.hid (And.intro h (And.intro hl (And.intro hlen hF)))
  clear h hl hlen hF
  go_enter Try.func48, Try.ntmps48
  go_wp2_with fail
  go_loopg [0, 9] n (fun k rm i wr => ∃ (j lf : Nat), j + k = n ∧ i = .int .i64 j ∧ rm = .int .i64 lf ∧ lf ≤ 250 ∧ j ≤ 255 ∧ Below w.heap.size w wr ∧ fstGo least (its.drop j) j lf = F)
  case atStart => exact ⟨0, left, by omega, rfl, rfl, hleft, by omega, Below.refl _ _, by rw [List.drop_zero]; exact H.out.2.2.2⟩
  case round =>
    obtain ⟨j, lf, hj, rfl, rfl, hlf, hj255, hb, heq⟩ := hrel
    have HX := Lib.hid (And.intro hj (And.intro hb heq))
    clear hj hb heq
    by_cases hlt : j < n
    · obtain ⟨⟨k, c⟩, hk⟩ : ∃ x, its[j]? = some x := ⟨_, List.getElem?_eq_getElem (by have := H.out.2.2.1; omega)⟩
      have hkd : its.drop j = (k, c) :: its.drop (j + 1) := by
        obtain ⟨h2, h3⟩ := List.getElem?_eq_some_iff.1 hk
        rw [List.drop_eq_getElem_cons h2, h3]
      obtain ⟨okk, ad, hA, hblk, x0, x1, x2, x3⟩ := KeysIn.at_ H.out.1 (i := j) (c := k) (by rw [List.getElem?_map, hk]; rfl)
      obtain ⟨adB, hB, hcB⟩ := H.out.2.1 (by rw [iv_length, List.length_map]; have := H.out.2.2.1; omega)
      have y0' := hcB j (.int .i64 (c : Int)) (by unfold iv; rw [List.getElem?_map, List.getElem?_map, hk]; rfl)
      have hblkB := World.block_lt_of_cell? w _ y0'
      subst hA hB
      have up : ∀ {p : Addr} {u : Value}, w.cell? p = some u → p.block < w.heap.size → wr.cell? p = some u := fun hu hp => (World.cell?_of_block (HX.out.2.1.block _ hp)).trans hu
      have p0 := up x0 hblk
      have p1 := up x1 hblk
      have p2 := up x2 hblk
      have p3 := up x3 hblk
      have y0 := up y0' hblkB
      have heq := HX.out.2.2
      rw [hkd, fstGo] at heq
      have HE := Lib.hid (fun w => dEndK_any w k okk)
      clear x0 x1 x2 x3 y0' up hk okk hcB hkd hblkB
      obtain ⟨fi, fa, fs, fc⟩ := k
      unfold Ky.val at HE
      dsimp only at p0 p1 p2 p3 HE heq
      generalize hen : endS ⟨fi, fa, fs, fc⟩ = en at *
      clear hen
      have hjn : (j : Int) < (n : Int) := by omega
      have t1 : decide (j < n) = true := decide_eq_true hlt
      by_cases h255 : j < 255
      · have t2 : decide ((j : Int) < 255) = true := decide_eq_true (by omega)
        have t2' : decide (j < 255) = true := decide_eq_true (by omega)
        by_cases hcl : c ≤ lf
        · have t3 : decide ((c : Int) ≤ (lf : Int)) = true := decide_eq_true (by omega)
          have t3' : decide (c ≤ lf) = true := decide_eq_true hcl
          rw [if_pos ⟨h255, hcl⟩] at heq
          have hend : (¬ least ≤ j + 1) ∨ (least ≤ j + 1 ∧ en = false) ∨ (least ≤ j + 1 ∧ en = true) := by
            cases en
            · by_cases h : least ≤ j + 1 <;> simp [h]
            · by_cases h : least ≤ j + 1 <;> simp [h]
          rcases hend with he1 | ⟨he1, he2⟩ | ⟨he1, he2⟩
          · rw [if_neg (fun h => he1 h.1)] at heq
            have t4 : decide ((least : Int) ≤ (j : Int) + 1) = false := decide_eq_false (by omega)
            have t4' : decide (least ≤ j + 1) = false := decide_eq_false he1
            have HQ := Lib.hid heq
            clear heq he1
            go_wp2_with fail
            go_roundg (n - (j + 1))
            case measure => have := HX.out.1; omega
            case rel => exact ⟨j + 1, lf - c, by have := HX.out.1; omega, by go_num, by go_num, by omega, by omega, HX.out.2.1, HQ.out⟩
          · rw [if_neg (by rw [he2]; exact fun h => by cases h.2)] at heq
            have t4 : decide ((least : Int) ≤ (j : Int) + 1) = true := decide_eq_true (by omega)
            have t4' : decide (least ≤ j + 1) = true := decide_eq_true he1
            have HQ := Lib.hid heq
            subst he2
            clear heq he1
            go_wp2_with fail
            refine (HE.out _).mono ?_
            rintro e w1 ⟨rfl, hb1⟩
            have H1 := Lib.hid (below_then HX.out.2.1 HX.out.2.1.size hb1)
            clear hb1 p0 p1 p2 p3 y0
            go_wp2_with fail
            go_roundg (n - (j + 1))
            case measure => have := HX.out.1; omega
            case rel => exact ⟨j + 1, lf - c, by have := HX.out.1; omega, by go_num, by go_num, by omega, by omega, H1.out, HQ.out⟩
          · rw [if_pos ⟨he1, he2⟩] at heq
            have t4 : decide ((least : Int) ≤ (j : Int) + 1) = true := decide_eq_true (by omega)
            have t4' : decide (least ≤ j + 1) = true := decide_eq_true he1
            have HQ := Lib.hid heq
            subst he2
            clear heq he1
            go_wp2_with fail
            refine (HE.out _).mono ?_
            rintro e w1 ⟨rfl, hb1⟩
            have H1 := Lib.hid (below_then HX.out.2.1 HX.out.2.1.size hb1)
            clear hb1 p0 p1 p2 p3 y0
            go_wp2_with fail
            go_ret
            exact ⟨ret_int (by rw [← HQ.out]; simp), H1.out⟩
        · have t3 : decide ((c : Int) ≤ (lf : Int)) = false := decide_eq_false (by omega)
          have t3' : decide (c ≤ lf) = false := decide_eq_false hcl
          rw [if_neg (fun h => hcl h.2)] at heq
          have HQ := Lib.hid heq
          clear heq
          go_wp2_with fail
          go_ret
          exact ⟨ret_int (by rw [← HQ.out]), HX.out.2.1⟩
      · have t2 : decide ((j : Int) < 255) = false := decide_eq_false (by omega)
        have t2' : decide (j < 255) = false := decide_eq_false (by omega)
        rw [if_neg (fun h => h255 h.1)] at heq
        have HQ := Lib.hid heq
        clear heq
        go_wp2_with fail
        go_ret
        exact ⟨ret_int (by rw [← HQ.out]), HX.out.2.1⟩
    · obtain rfl : j = n := by have := HX.out.1; omega
      have t1 : decide (j < j) = false := decide_eq_false (by omega)
      have hge : ¬ (j : Int) < (j : Int) := by omega
      have heq := HX.out.2.2
      rw [List.drop_of_length_le (by have := H.out.2.2.1; omega), fstGo] at heq
      have HQ := Lib.hid heq
      clear heq
      go_wp2_with fail
      go_ret
      exact ⟨ret_int (by rw [← HQ.out]), HX.out.2.1⟩
end Go.Proofs.Ytlioclicopakbaa
