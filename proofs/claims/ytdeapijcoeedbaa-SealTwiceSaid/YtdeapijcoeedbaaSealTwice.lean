/- SealTwice: the walk. -/
import Derived.Test.YtdeapijcoeedbaaSealSure
set_option linter.unusedVariables false
set_option linter.unusedSimpArgs false
namespace Go.Proofs.Ytdeapijcoeedbaa
open Go.RowKit

set_option maxRecDepth 100000 in
set_option maxHeartbeats 4000000 in
theorem walkSealTwice (w : World) (s : Int) (ws : (Lit.int .i64 s).wf = true) (x1 : Int) (wk : (Lit.int .u8 x1).wf = true) (A : Option Addr) (c : Nat) (body : List UInt8) (hr : RV w A (bv body)) (hR : body.length ≤ 140737488351232)
    (B : Option Addr) (d : Nat) (m : List UInt8) (hrm : RV w B (bv m)) (hRm : m.length ≤ 140737488351232) (C : Option Addr) (d2 : Nat) (m2 : List UInt8) (hrm2 : RV w C (bv m2)) (hRm2 : m2.length ≤ 140737488351232) :
    Calls Try.prog 6 #[.int .i64 s, .int .u8 x1, .slice A body.length c, .slice B m.length d, .slice C m2.length d2] w fun e w' => e = .returned (.bool true) ∧ Below w.heap.size w w' := by
  obtain ⟨kind, rfl⟩ := u8_byte wk
  have HR := Lib.hid (And.intro hr (And.intro hrm (And.intro hrm2 (show body.length ≤ maxLen by unfold maxLen; omega))))
  clear hr ws wk hrm hR hrm2
  go_enter Try.func6, Try.ntmps6
  go_wp2_with fail
  refine (putPage_any w s kind A c body HR.out.1 HR.out.2.2.2).mono ?_
  rintro e w1 ⟨v1, rfl, ho1, hb1⟩
  have hq3 := putPageS_code s kind body
  by_cases hq : (putPageS s kind body).2 = 0
  · by_cases hm0 : m.length = 0 ∨ m2.length = 0
    · rw [hq]
      have H1 := Lib.hid hb1
      clear ho1 hb1 hq
      rcases hm0 with hm0 | hm0
      all_goals
        rw [hm0]
        go_wp2_with fail
      all_goals
        refine (works_any _).mono ?_
        rintro e w9 ⟨rfl, hb9⟩
        have H9 := Lib.hid hb9
        clear hb9
        go_wp2_with fail
        go_ret
        exact ⟨rfl, below_then H1.out H1.out.size H9.out⟩
    · have hm0' : m.length ≠ 0 := fun h => hm0 (.inl h)
      have hm0'' : m2.length ≠ 0 := fun h => hm0 (.inr h)
      have hme : ((m.length : Int) == 0) = false := beq_eq_false_iff_ne.2 (by omega)
      have hme2 : ((m2.length : Int) == 0) = false := beq_eq_false_iff_ne.2 (by omega)
      clear hm0
      obtain ⟨hs1, hs2, hk1, hk7, hbl5, hput⟩ := putPageS_ok hq
      have hp : isPage s.toNat := by unfold isPage; omega
      have hplen := pageS_length (kind := kind) hp hbl5
      have hget := getS_page hp hk1 hk7 hbl5
      have hsure := fun q => sure (q := q) hp hk1 hk7 hbl5
      rw [hput] at ho1 ⊢
      dsimp only at ho1 ⊢
      generalize pageS s.toNat kind body = P at ho1 hplen hget hsure
      have hPl : P.length ≤ 256 := by omega
      have hPl0 : 0 < P.length := by omega
      obtain ⟨A1, c1, rfl, _, _, _, _⟩ := ho1.slice
      have H1 := Lib.hid (And.intro ho1 (And.intro hb1 (And.intro hget hsure)))
      clear ho1 hb1 hq hput hget hsure hplen
      go_wp2_with fail
      refine (copy_own w1 _ _ P H1.out.1 (by omega)).mono ?_
      rintro e va ⟨ua, rfl, hox, hbx⟩
      obtain ⟨ga, fulla, rfl, hga, hrow, htk, hfma⟩ := own_some hox (by omega)
      have hfla : P.length ≤ fulla.length := OwnB.len (g := ga) htk
      have hZl : (maskS m P ++ fulla.drop P.length).length = fulla.length := by
        rw [List.length_append, maskS_length, List.length_drop]
        omega
      have hZg : ∀ j a b, P[j]? = some a → m[j % m.length]? = some b → (maskS m P ++ fulla.drop P.length)[j]? = some (a ||| b) := fun j a b ha hb => by
        rw [List.getElem?_append_left (by rw [maskS_length]; exact (List.getElem?_eq_some_iff.1 ha).1)]
        exact maskS_get ha hb
      have hZt : (maskS m P ++ fulla.drop P.length).take P.length = maskS m P := List.take_left' (maskS_length m P)
      have hQl := maskS_length m P
      have HUa := Lib.hid (maskS_up m P)
      generalize maskS m P = Qa at hZl hZg hZt hQl HUa
      generalize Qa ++ fulla.drop P.length = Za at hZl hZg hZt
      have hga0 : w.heap.size ≤ ga := Nat.le_trans H1.out.2.1.size hga
      have Ha2 := Lib.hid (And.intro hrow (And.intro htk (And.intro hbx (And.intro hZl (And.intro hZg (And.intro hZt hQl))))))
      have Hla := Lib.hid hQl
      clear hrow htk hbx hZl hZg hZt hox hQl
      go_wp2_with fail
      go_loopg [14] P.length (fun k i wr => ∃ j : Nat, j + k = P.length ∧ i = .int .i64 j ∧ RowB 5 wr ga (Za.take j ++ fulla.drop j) ∧ Below w1.heap.size w1 wr)
      case atStart => exact ⟨0, by omega, rfl, by simpa using Ha2.out.1, Ha2.out.2.2.1⟩
      case round =>
        obtain ⟨j, hj, rfl, hrw, hbw⟩ := hrel
        have HJ := Lib.hid (And.intro hj (And.intro hrw hbw))
        clear hj hrw hbw
        by_cases hlt : j < P.length
        · have hfz := HJ.out.2.1.frozen j
          have ePj : P[j]? = some P[j] := List.getElem?_eq_getElem hlt
          have hcell : wr.cell? ⟨ga, j, none⟩ = some (.int .u8 (P[j].toNat : Int)) := HJ.out.2.1.cell (by rw [over_get Ha2.out.2.2.2.1 (by omega)]; exact taken_get Ha2.out.2.1 ePj)
          have hmod : j % m.length < m.length := Nat.mod_lt _ (by omega)
          obtain ⟨bd, rfl, hcelm⟩ := (HR.out.2.1.below (below_then H1.out.2.1 H1.out.2.1.size HJ.out.2.2)).at_ (k := j % m.length) (by rw [bv_length]; exact hmod)
          have ebm : (bv m)[j % m.length]'(by rw [bv_length]; exact hmod) = .int .u8 (m[j % m.length].toNat : Int) := by simp [bv]
          rw [ebm] at hcelm
          have emj : m[j % m.length]? = some m[j % m.length] := List.getElem?_eq_getElem hmod
          have hz := over_set Ha2.out.2.2.2.1 (Ha2.out.2.2.2.2.1 j _ _ ePj emj)
          have hor := or_u8 P[j] m[j % m.length]
          have t1 := P[j].toNat_lt
          have t2 := m[j % m.length].toNat_lt
          generalize P[j] = a at hcell hz hor t1
          generalize m[j % m.length] = b at hcelm hz hor t2
          have HZ := Lib.hid hz
          have hrem : Int.tmod (j : Int) (m.length : Int) = ((j % m.length : Nat) : Int) := by rw [Int.tmod_eq_emod_of_nonneg (by omega)]; simp
          have hmodI : ((j % m.length : Nat) : Int) < (m.length : Int) := by omega
          have hwrap : IntKind.i64.wrap ((j % m.length : Nat) : Int) = ((j % m.length : Nat) : Int) := IntWalk.i64_in _ (by omega)
          clear hz ePj emj ebm
          generalize j % m.length = q at *
          go_wp2_with fail
          go_still_tail 15, (by kernel_rfl)
          change wpList _ _ _ _ _ wr.drew
          have hfz2 : wr.drew.frozen? ⟨ga, j, none⟩ = false := hfz
          go_wp2_with fail
          go_roundg (P.length - (j + 1))
          case measure => have := HJ.out.1; omega
          case rel => exact ⟨j + 1, by have := HJ.out.1; omega, by go_num, by rw [← HZ.out]; exact HJ.out.2.1.set' j (by rw [UInt8.toNat_or]), drew_below (HJ.out.2.2.setCell (p := ⟨ga, j, none⟩) hga _)⟩
        · have hjx : j = P.length := by have := HJ.out.1; omega
          have ho : OwnB 5 wr w1.heap.size (.slice (some ⟨ga, 0, none⟩) P.length fulla.length) Qa := by
            have hrw := HJ.out.2.1
            rw [hjx, Ha2.out.2.2.2.2.2.1] at hrw
            refine .inr ⟨ga, Qa ++ fulla.drop P.length, ?_, hga, hrw, List.take_left, ?_⟩
            · rw [Ha2.out.2.2.2.2.2.2, List.length_append, Ha2.out.2.2.2.2.2.2, List.length_drop]
              congr 1
              omega
            · rw [List.length_append, Ha2.out.2.2.2.2.2.2, List.length_drop]
              omega
          have hPown := H1.out.1.below HJ.out.2.2
          rw [← Hla.out] at hPown
          have HF := Lib.hid (And.intro ho (And.intro hPown (And.intro (below_then H1.out.2.1 H1.out.2.1.size HJ.out.2.2) H1.out.2.2)))
          rw [← Hla.out]
          rw [← Hla.out] at hfla
          have HFo := Lib.hid (show OwnB 5 wr w1.heap.size (.slice (some ⟨ga, 0, none⟩) Qa.length fulla.length) Qa by rw [Hla.out]; exact ho)
          have hQa : Qa.length ≤ 256 := by rw [Hla.out]; exact hPl
          have hQa0 : 0 < Qa.length := by rw [Hla.out]; exact hPl0
          have hlq : ¬ (j : Int) < (Qa.length : Int) := by rw [Hla.out]; omega
          obtain ⟨wb, rfl⟩ : ∃ wb : World, wb = wr := ⟨_, rfl⟩
          clear ho hlt hjx hPown
          go_wp2_with fail
          refine (copy_own wb _ _ Qa HFo.out (by omega)).mono ?_
          rintro e vb ⟨ub, rfl, hox, hbx⟩
          obtain ⟨gb, fullb, rfl, hgb, hrow, htk, hfmb⟩ := own_some hox (by omega)
          have hflb : Qa.length ≤ fullb.length := OwnB.len (g := gb) htk
          have hZl : (maskS m2 Qa ++ fullb.drop Qa.length).length = fullb.length := by
            rw [List.length_append, maskS_length, List.length_drop]
            omega
          have hZg : ∀ j a b, Qa[j]? = some a → m2[j % m2.length]? = some b → (maskS m2 Qa ++ fullb.drop Qa.length)[j]? = some (a ||| b) := fun j a b ha hb => by
            rw [List.getElem?_append_left (by rw [maskS_length]; exact (List.getElem?_eq_some_iff.1 ha).1)]
            exact maskS_get ha hb
          have hZt : (maskS m2 Qa ++ fullb.drop Qa.length).take Qa.length = maskS m2 Qa := List.take_left' (maskS_length m2 Qa)
          have hQl := maskS_length m2 Qa
          have HUb := Lib.hid (maskS_up m2 Qa)
          generalize maskS m2 Qa = Qb at hZl hZg hZt hQl HUb
          generalize Qb ++ fullb.drop Qa.length = Zb at hZl hZg hZt
          have hgb0 : w.heap.size ≤ gb := Nat.le_trans HF.out.2.2.1.size hgb
          have Hb2 := Lib.hid (And.intro hrow (And.intro htk (And.intro hbx (And.intro hZl (And.intro hZg (And.intro hZt hQl))))))
          have Hlb := Lib.hid hQl
          clear hrow htk hbx hZl hZg hZt hox hQl
          go_wp2_with fail
          go_loopg [16] Qa.length (fun k i wr => ∃ j : Nat, j + k = Qa.length ∧ i = .int .i64 j ∧ RowB 5 wr gb (Zb.take j ++ fullb.drop j) ∧ Below wb.heap.size wb wr)
          case atStart => exact ⟨0, by omega, rfl, by simpa using Hb2.out.1, Hb2.out.2.2.1⟩
          case round =>
            obtain ⟨j, hj, rfl, hrw, hbw⟩ := hrel
            have HJ := Lib.hid (And.intro hj (And.intro hrw hbw))
            clear hj hrw hbw
            by_cases hlt : j < Qa.length
            · have hfz := HJ.out.2.1.frozen j
              have ePj : Qa[j]? = some Qa[j] := List.getElem?_eq_getElem hlt
              have hcell : wr.cell? ⟨gb, j, none⟩ = some (.int .u8 (Qa[j].toNat : Int)) := HJ.out.2.1.cell (by rw [over_get Hb2.out.2.2.2.1 (by omega)]; exact taken_get Hb2.out.2.1 ePj)
              have hmod : j % m2.length < m2.length := Nat.mod_lt _ (by omega)
              obtain ⟨ce, rfl, hcelm⟩ := (HR.out.2.2.1.below (below_then HF.out.2.2.1 HF.out.2.2.1.size HJ.out.2.2)).at_ (k := j % m2.length) (by rw [bv_length]; exact hmod)
              have ebm : (bv m2)[j % m2.length]'(by rw [bv_length]; exact hmod) = .int .u8 (m2[j % m2.length].toNat : Int) := by simp [bv]
              rw [ebm] at hcelm
              have emj : m2[j % m2.length]? = some m2[j % m2.length] := List.getElem?_eq_getElem hmod
              have hz := over_set Hb2.out.2.2.2.1 (Hb2.out.2.2.2.2.1 j _ _ ePj emj)
              have hor := or_u8 Qa[j] m2[j % m2.length]
              have t1 := Qa[j].toNat_lt
              have t2 := m2[j % m2.length].toNat_lt
              generalize Qa[j] = a at hcell hz hor t1
              generalize m2[j % m2.length] = b at hcelm hz hor t2
              have HZ := Lib.hid hz
              have hrem : Int.tmod (j : Int) (m2.length : Int) = ((j % m2.length : Nat) : Int) := by rw [Int.tmod_eq_emod_of_nonneg (by omega)]; simp
              have hmodI : ((j % m2.length : Nat) : Int) < (m2.length : Int) := by omega
              have hwrap : IntKind.i64.wrap ((j % m2.length : Nat) : Int) = ((j % m2.length : Nat) : Int) := IntWalk.i64_in _ (by omega)
              clear hz ePj emj ebm
              generalize j % m2.length = q at *
              go_wp2_with fail
              go_still_tail 15, (by kernel_rfl)
              change wpList _ _ _ _ _ wr.drew
              have hfz2 : wr.drew.frozen? ⟨gb, j, none⟩ = false := hfz
              go_wp2_with fail
              go_roundg (Qa.length - (j + 1))
              case measure => have := HJ.out.1; omega
              case rel => exact ⟨j + 1, by have := HJ.out.1; omega, by go_num, by rw [← HZ.out]; exact HJ.out.2.1.set' j (by rw [UInt8.toNat_or]), drew_below (HJ.out.2.2.setCell (p := ⟨gb, j, none⟩) hgb _)⟩
            · have hjx : j = Qa.length := by have := HJ.out.1; omega
              have ho : OwnB 5 wr wb.heap.size (.slice (some ⟨gb, 0, none⟩) Qa.length fullb.length) Qb := by
                have hrw := HJ.out.2.1
                rw [hjx, Hb2.out.2.2.2.2.2.1] at hrw
                refine .inr ⟨gb, Qb ++ fullb.drop Qa.length, ?_, hgb, hrw, List.take_left, ?_⟩
                · rw [Hb2.out.2.2.2.2.2.2, List.length_append, Hb2.out.2.2.2.2.2.2, List.length_drop]
                  congr 1
                  omega
                · rw [List.length_append, Hb2.out.2.2.2.2.2.2, List.length_drop]
                  omega
              have HG := Lib.hid (And.intro ho (And.intro (HF.out.2.1.below HJ.out.2.2) (And.intro (below_then HF.out.2.2.1 HF.out.2.2.1.size HJ.out.2.2) (And.intro (Up.trans HUa.out HUb.out) HF.out.2.2.2))))
              have HL := Lib.hid (And.intro Hlb.out Hla.out)
              subst hjx
              clear ho
              go_wp2_with fail
              refine (getPage_own wr _ _ Qb HG.out.1).mono ?_
              rintro e w4 ⟨v4, rfl, ho4, hb4⟩
              by_cases hne : Qb = P
              · rw [hne, HG.out.2.2.2.2.1]
                have HG1 := HG.out.1
                rw [hne] at HG1
                have H4 := Lib.hid (And.intro (HG1.below hb4) (And.intro (HG.out.2.1.below hb4) (below_then HG.out.2.2.1 HG.out.2.2.1.size hb4)))
                clear ho4 hb4 hne HG1
                go_wp2_with fail
                refine (same_oo w4 _ _ _ _ P P H4.out.2.1 H4.out.1).mono ?_
                rintro e w5 ⟨rfl, hd5⟩
                rw [decide_eq_true rfl]
                have H5 := Lib.hid (H4.out.2.2.trans (hd5.below _))
                clear hd5
                go_wp2_with fail
                refine (works_any _).mono ?_
                rintro e w9 ⟨rfl, hb9⟩
                have H9 := Lib.hid hb9
                clear hb9
                go_wp2_with fail
                go_ret
                exact ⟨rfl, below_then H5.out H5.out.size H9.out⟩
              · have hsame : decide (P = Qb) = false := decide_eq_false fun h => hne h.symm
                have H4 := Lib.hid (And.intro (HG.out.1.below hb4) (And.intro (HG.out.2.1.below hb4) (And.intro (below_then HG.out.2.2.1 HG.out.2.2.1.size hb4) hsame)))
                rcases HG.out.2.2.2.2.2 Qb HG.out.2.2.2.1 hne with ⟨hbl, hgq⟩ | ⟨hbl, hgq⟩
                all_goals
                  rw [hgq]
                  clear ho4 hb4 hsame hgq hbl hne
                  go_wp2_with fail
                  refine (same_oo w4 _ _ _ _ P Qb H4.out.2.1 H4.out.1).mono ?_
                  rintro e w5 ⟨rfl, hd5⟩
                  rw [H4.out.2.2.2]
                  have H5 := Lib.hid (H4.out.2.2.1.trans (hd5.below _))
                  clear hd5
                  go_wp2_with fail
                  refine (works_any _).mono ?_
                  rintro e w9 ⟨rfl, hb9⟩
                  have H9 := Lib.hid hb9
                  clear hb9
                  go_wp2_with fail
                  go_ret
                  exact ⟨rfl, below_then H5.out H5.out.size H9.out⟩
  · generalize (putPageS s kind body).2 = n at *
    generalize (putPageS s kind body).1 = y at *
    have hne : ((n : Int) != 0) = true := by simp; exact hq
    have H1 := Lib.hid hb1
    clear ho1 hb1 hq
    go_wp2_with fail
    refine (works_any _).mono ?_
    rintro e w9 ⟨rfl, hb9⟩
    have H9 := Lib.hid hb9
    clear hb9
    go_wp2_with fail
    go_ret
    exact ⟨rfl, below_then H1.out H1.out.size H9.out⟩
end Go.Proofs.Ytdeapijcoeedbaa
