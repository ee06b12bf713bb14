import Derived.Test.YtlcdabmclcfagaaRfKM
import Derived.Test.YtlcdabmclcfagaaNdBM
import Derived.Test.YtlcdabmclcfagaaNdDM
set_option linter.unusedVariables false
set_option linter.unusedSimpArgs false
/- Layer 3: the document's done, plain. -/
namespace Go.Proofs.Ytlcdabmclcfagaa
open Go.RowKit

def RDoneEnd (w : World) (F : Nat → Prop) (r : Nat) (q : Chp × Nat) (e : Ending) (w' : World) : Prop :=
  e = .returned (.int .i64 (q.2 : Int)) ∧ RC w' F r q.1 ∧ Tch F w w'
theorem bitS_bt (h : Htt) (j k : Nat) : bitS h j k = bt (maskAt (some h) j) k := by
  unfold bitS
  rw [bt_nat]
theorem bt255 : ∀ k, k < 8 → bt 255 k = true := by decide
theorem set_same {l : List UInt8} {j : Nat} {x : UInt8} (h : l[j]? = some x) : l.set j x = l := by
  obtain ⟨hj, hx⟩ := List.getElem?_eq_some_iff.1 h
  subst hx
  exact List.set_getElem_self hj
theorem oneB_lt (k : Nat) (hk : k < 8) : ((oneB k).toNat : Int) = 2 ^ k := by
  have : ∀ k, k < 8 → (oneB k).toNat = 2 ^ k := by decide
  rw [this k hk]
  simp
theorem done_at {l old mix ws tb : List UInt8} {hs : Option Htt} {at_ n : Nat} (hold : seg l at_ n = old) (hl : at_ + n ≤ l.length) (hws : ws.length = n) (hmix : mixL hs old ws = mix) {j : Nat} (hj : j < n) :
    ∃ o y, ws[j]? = some y ∧ (upto old mix j).set j o = upto old mix j ∧ (upto old mix j).set j (mixB (maskAt hs j) o y) = upto old mix (j + 1) ∧
      ∀ x, (spl l at_ ((upto old mix j).set j x) ++ tb)[at_ + j]? = some x ∧ ∀ x', (spl l at_ ((upto old mix j).set j x) ++ tb).set (at_ + j) x' = spl l at_ ((upto old mix j).set j x') ++ tb := by
  have hol : old.length = n := by rw [← hold]; exact seg_len hl
  have hml : mix.length = n := by rw [← hmix, mixL_len (by rw [hol, hws]), hol]
  have hmm : mix.length = old.length := by omega
  have hul : (upto old mix j).length = n := by rw [upto_len hmm, hol]
  obtain ⟨o, ho⟩ : ∃ o, old[j]? = some o := ⟨_, List.getElem?_eq_getElem (by omega)⟩
  obtain ⟨y, hy⟩ : ∃ y, ws[j]? = some y := ⟨_, List.getElem?_eq_getElem (by omega)⟩
  have hm : mix[j]? = some (mixB (maskAt hs j) o y) := by rw [← hmix]; exact mixL_get ho hy
  refine ⟨o, y, hy, set_same (by rw [upto_get hmm, if_neg (by omega)]; exact ho), upto_set hmm hm, fun x => ?_⟩
  have hsl : (spl l at_ ((upto old mix j).set j x)).length = l.length := spl_len (by rw [List.length_set, hul]; exact hl)
  refine ⟨?_, fun x' => ?_⟩
  · rw [List.getElem?_append_left (by omega), spl_get (by rw [List.length_set, hul]; exact hl), if_pos ⟨by omega, by rw [List.length_set, hul]; omega⟩, Nat.add_sub_cancel_left, List.getElem?_set, if_pos rfl, if_pos (by omega)]
  · rw [List.set_append_left _ _ (by omega), spl_set (by rw [List.length_set, hul]; exact hl) (by rw [List.length_set, hul]; exact hj), List.set_set]
end Go.Proofs.Ytlcdabmclcfagaa
