import Derived.Lib.BitFns
import Derived.Test.YtckpgbkabbddnaaProg
import Derived.Test.YtckpgbkabbddnaaMBase
import Derived.Test.YtckpgbkabbddnaaSizeBM
set_option linter.unusedVariables false
set_option linter.unusedSimpArgs false
/- Layer 2: contracts of package seal: isSize, Body, Noughts. -/
namespace Go.Proofs.Ytckpgbkabbddnaa
open Go.RowKit

/-- The body of OnesCount8, its table by the library's name. -/
def onesCode : Code :=
  (Code.region 0 #[{ dst := some 2, op := Op.assign (Operand.const (Value.int IntKind.i64 0)), type := 3, pos := "bits.go:125", after := #[], guard := none }] false).seq
    ((Code.region 1
      #[{ dst := some 3, op := Op.move (Operand.tmp 0), type := 5, pos := "bits.go:126", after := #[], guard := none },
        { dst := some 4, op := Op.index 9 (Operand.const (Value.string Lib.pop8tab)) (Operand.tmp 3), type := 5, pos := "bits.go:126", after := #[{ on := 0, ground := Ground.data }], guard := none },
        { dst := some 5, op := Op.convert 5 3 (Operand.tmp 4), type := 3, pos := "bits.go:126", after := #[{ on := 1, ground := Ground.data }], guard := none },
        { dst := some 2, op := Op.assign (Operand.tmp 5), type := 3, pos := "bits.go:126",
          after := #[{ on := 2, ground := Ground.data }, { on := 0, ground := Ground.phase }, { on := 1, ground := Ground.phase }, { on := 2, ground := Ground.phase }], guard := none }] false).seq Code.ret)
theorem ones_body : Try.f47.body = some onesCode := by kernel_rfl
set_option maxRecDepth 100000 in
theorem ones_any (x : Int) (w : World) (h0 : 0 ≤ x) (h1 : x ≤ 255) :
    Calls Try.prog 47 #[.int .u8 x] w fun e w' => e = .returned (.int .i64 (Lib.onesCount x.toNat)) ∧ w = w' := by
  have hw : wrap64 (Lib.pop8 x) = (Lib.onesCount x.toNat : Int) := by
    unfold wrap64
    exact Lib.pop8_int x h0 h1
  have HW := Lib.hid hw
  clear hw
  refine calls_of_wp (c := onesCode) Try.func47 ones_body ?_
  simp only [Try.ntmps47, List.size_toArray, List.length_cons, List.length_nil, Nat.reduceAdd, Nat.reduceSub, Array.replicate_succ, Array.replicate_zero, List.push_toArray, List.append_toArray, List.nil_append, List.cons_append]
  unfold onesCode
  go_wp2
  go_ret
  exact ⟨ret_int HW.out, rfl⟩
theorem zeros_ones : ∀ n : Fin 256, Lib.onesCount (255 - n.val) = zerosTo n.val 8 := by decide +kernel
theorem xor_not : ∀ n : Fin 256, bits .xor .u8 IntKind.u8.max (n.val : Int) = 255 - (n.val : Int) := by decide +kernel
theorem zeros_eq (b : UInt8) : (Lib.onesCount (255 - (b.toNat : Int)).toNat : Int) = (zeros b : Int) := by
  have h := zeros_ones ⟨b.toNat, b.toNat_lt⟩
  have e : (255 - (b.toNat : Int)).toNat = 255 - b.toNat := by omega
  rw [e]
  unfold zeros
  exact congrArg (fun n : Nat => (n : Int)) h

set_option maxHeartbeats 400000 in
theorem noughts_any (A : Option Addr) (c : Nat) (xs : List UInt8) (w : World) (hr : RV w A (bv xs)) (hx : xs.length ≤ 140737488355328) :
    Calls Try.prog 29 #[.slice A xs.length c] w fun e w' => e = .returned (.int .i64 (noughts xs : Nat)) ∧ w = w' := by
  have HR := Lib.hid hr
  clear hr
  go_enter Try.func29, Try.ntmps29
  go_wp2_with fail
  go_loopg [3, 8] xs.length (fun k n i wr => ∃ j : Nat, j + k = xs.length ∧ n = .int .i64 (noughts (xs.take j) : Nat) ∧ i = .int .i64 j ∧ wr = w)
  case atStart => exact ⟨0, by omega, rfl, rfl, rfl⟩
  case round =>
    obtain ⟨j, hj, rfl, rfl, rfl⟩ := hrel
    have HJ := Lib.hid hj
    clear hj
    by_cases hlt : j < xs.length
    · obtain ⟨ad, rfl, hcell⟩ := HR.out.at_ (k := j) (by rw [bv_length]; omega)
      have hbj : (bv xs)[j]'(by rw [bv_length]; omega) = .int .u8 (xs[j].toNat : Int) := by simp [bv]
      rw [hbj] at hcell
      have hnt := noughts_take hlt
      have hz := zeros_eq xs[j]
      have hz8 := zeros_le xs[j]
      have hn := noughts_le (xs.take j)
      have hb256 := xs[j].toNat_lt
      rw [List.length_take] at hn
      have hn2 : noughts (xs.take j) ≤ 1125899906842624 := by omega
      generalize noughts (xs.take j) = m at hnt hn2
      generalize xs[j] = b at hcell hnt hz hz8 hb256
      generalize zeros b = zb at hnt hz hz8
      generalize hbx : b.toNat = x at hcell hz hb256
      have hx255 : (x : Int) ≤ 255 := by omega
      have hxor := xor_not ⟨x, by omega⟩
      dsimp only at hxor
      have HX := Lib.hid (And.intro hnt hz)
      clear hnt hz hn hbj hbx
      go_wp2_with (go_at_call 47; refine (ones_any _ _ (by omega) (by omega)).mono ?_; rintro e w' ⟨rfl, rfl⟩; rw [HX.out.2])
      have hzb : (zb : Int) ≤ 8 := by omega
      go_wp2_with fail
      go_roundg (xs.length - (j + 1))
      case measure => have := HJ.out; omega
      case rel => exact ⟨j + 1, by have := HJ.out; omega, by rw [HX.out.1]; go_num, by go_num, rfl⟩
    · have hjx : j = xs.length := by have := HJ.out; omega
      have hfin : noughts (xs.take j) = noughts xs := by rw [hjx, List.take_length]
      have HF := Lib.hid hfin
      clear hfin hjx
      go_wp2_with fail
      go_ret
      exact ⟨by rw [← HF.out]; rfl, rfl⟩
theorem noughts_at (A : Option Addr) (n c : Nat) (xs : List UInt8) (w : World) (hn : xs.length = n) (hr : RV w A (bv xs)) (hx : n ≤ 140737488355328) :
    Calls Try.prog 29 #[.slice A n c] w fun e w' => e = .returned (.int .i64 (noughts xs : Nat)) ∧ w = w' := by
  subst hn
  exact noughts_any A c xs w hr hx
end Go.Proofs.Ytckpgbkabbddnaa
