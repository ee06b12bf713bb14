import Derived.Lib.ConvBytes
import Derived.Laws.IdiomStrings
import Derived.Test.YtlioclicopakbaaMBase
set_option linter.unusedVariables false
set_option linter.unusedSimpArgs false
/- A text's bytes; bytes as a text. -/
namespace Go.Proofs.Ytlioclicopakbaa
open Go.RowKit

theorem conv_str {P : Program} (w : World) (src dst e : TypeId) (s : ByteArray) {u : TypeDesc} (hs : P.underlying src = some u) (hd : P.underlying dst = some (.slice e)) (he : P.underlying e = some (.int .u8)) :
    ∃ c W, (convert src dst (.string s)).run P w = .ok (.slice (some ⟨w.heap.size, 0, none⟩) s.size c) W ∧ RV W (some ⟨w.heap.size, 0, none⟩) (bv s.data.toList) ∧ Below w.heap.size w W := by
  refine ⟨_, _, Lib.run_convert_string_bytes w src dst e s hs hd he, fun _ => ⟨_, rfl, fun j u hu => ?_⟩, ⟨rfl, rfl, rfl, ?_, fun i hi => Lib.bytesWorld_at_old w e s i hi⟩⟩
  · rw [bv_get] at hu
    obtain ⟨b, hb, rfl⟩ := Option.map_eq_some_iff.1 hu
    have hj : j < s.size := (List.getElem?_eq_some_iff.1 hb).1
    rw [add_lit0, Lib.bytesWorld_cell w e s j hj, List.getD_eq_getElem?_getD, hb]
    rfl
  · rw [Lib.bytesWorld_size]; omega
theorem conv_bytes {P : Program} (w : World) (src dst e : TypeId) (A : Option Addr) (c : Nat) (l : List UInt8) (hs : P.underlying src = some (.slice e)) (he : P.underlying e = some (.int .u8)) (hd : P.underlying dst = some .string) (hr : RV w A (bv l)) :
    (convert src dst (.slice A l.length c)).run P w = .ok (.string ⟨l.toArray⟩) w := by
  by_cases h0 : l.length = 0
  · have : l = [] := List.eq_nil_of_length_eq_zero h0
    subst this
    rw [List.length_nil, run_convert_bytes_string w src dst e A 0 c hs he hd]
    cases A with
    | none => rfl
    | some a =>
      have := run_bytesToString (P := P) w a 0 c [] (by simp [loadCells, loadCellsFrom])
      simp at this
      exact this
  · obtain ⟨ad, rfl, hc⟩ := hr (by rw [bv_length]; omega)
    exact run_convert_bytes_back w src dst e ad c l hs he hd fun j hj => hc j _ (by rw [bv_get, List.getElem?_eq_getElem hj]; rfl)
end Go.Proofs.Ytlioclicopakbaa
