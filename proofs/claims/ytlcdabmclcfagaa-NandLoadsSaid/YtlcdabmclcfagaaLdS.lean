/- Load, plain; a copy onto bytes that touches one block. -/
import Derived.Test.YtlcdabmclcfagaaNdN
import Derived.Test.YtlcdabmclcfagaaCopyB
set_option linter.unusedVariables false
set_option linter.unusedSimpArgs false
namespace Go.Proofs.Ytlcdabmclcfagaa
open Go.RowKit

theorem wp_copyG {P : Program} {w : World} {o : Oper} {a : Act} {K : Act → World → Prop} {Q : Exit → Act → World → Prop} (d s : Operand) (T : TypeId)
    (ho : o.op = .call { callee := .builtin .copy, args := #[d, s], argTypes := #[T, T] }) (e : TypeId) (hu : P.underlying T = some (.slice e)) (hinfo : (P.info? e).map (fun i => (i.zero, i.size, i.bytes)) = some (some (.int .u8 0), 1, 1))
    (g off dLen dCap q m c : Nat) (ad : Addr) (hd : a.eval d = .slice (some ⟨g, off, none⟩) dLen dCap) (hs : a.eval s = .slice (some ad) m c) (full : List UInt8) (hrow : RowB e w g full) (ys : List UInt8) (hm : ys.length = q) (hq : q = min m dLen) (hr : RV w (some ad) (bv ys)) (h0 : 0 < q)
    (hfit : off + q ≤ full.length)
    (h : ∀ w', RowB e w' g (full.take off ++ (ys ++ full.drop (off + q))) → w.grownBy w' (some g) → K (a.put o.dst (goInt q)) w') : Oper.wp P o a w K Q := by
  obtain ⟨i, hi, _, hz1, _⟩ := app_info hinfo
  obtain ⟨ad', hA, hsrc⟩ := hr (by rw [bv_length, hm]; exact h0)
  injection hA with hA
  subst hA
  have hrun := run_copy_row (P := P) w T T o.type e g off dLen dCap ad m c (bv full).toArray e (bv ys) hu (by rw [hi]; simp [hz1]) hrow (by rw [bv_length, hm]; exact hq) hsrc (by simp only [List.size_toArray, bv_length, hm]; exact hfit) (bv_oneCell ys)
  have hl : (bv ys).length = q := by rw [bv_length, hm]
  rw [hl] at hrun
  unfold Oper.wp
  simp [execOp, ho, resolve, invoke, builtin, hd, hs, hrun, Result.andThen]
  refine h _ ?h1 ?h2
  case h2 => exact ⟨rfl, rfl, rfl, by simp [World.setRow], fun k _ hk => setRow_other w g k _ (fun e => hk (by rw [e]))⟩
  have h1 := setRow_heap w g (bv full).toArray (((bv full).take off) ++ (bv ys) ++ ((bv full).drop (off + q))).toArray e (0, 0) hrow
  unfold RowB
  rw [bv_append, bv_append, bv_take, bv_drop]
  simpa [hm] using h1

/-! ### Load, plain (of the small geometry) -/
def setBads : List Int → List Bool → Option (List Bool)
  | [], bs => some bs
  | i :: r, bs => if i < 0 ∨ 8 ≤ i then none else setBads r (bs.set i.toNat true)
def s0 : Chp := newS 8 4 128 0
def loadC (xs : List UInt8) (bs : List Bool) : Chp := {s0 with bytes := xs, bad := bs}
def loadS (xs : List UInt8) (bad : List Int) : Option Chp := if xs.length = 4096 then (setBads bad (List.replicate 8 false)).map (loadC xs) else none
def setUpTo : List Int → Nat → List Bool → Option (List Bool)
  | l, n, bs => setBads (l.take n) bs
theorem setBads_snoc : ∀ (l : List Int) (i : Int) (bs : List Bool), setBads (l ++ [i]) bs = (setBads l bs).bind (fun b => if i < 0 ∨ 8 ≤ i then none else some (b.set i.toNat true))
  | [], i, bs => by
    simp only [List.nil_append, setBads]
    split <;> simp_all
  | j :: l, i, bs => by
    simp only [List.cons_append, setBads]
    by_cases h : j < 0 ∨ 8 ≤ j
    · rw [if_pos h, if_pos h]
      rfl
    · rw [if_neg h, if_neg h]
      exact setBads_snoc l i _
theorem setBads_none : ∀ (l r : List Int) (bs : List Bool), setBads l bs = none → setBads (l ++ r) bs = none
  | [], r, bs, h => by simp [setBads] at h
  | j :: l, r, bs, h => by
    simp only [List.cons_append, setBads] at h ⊢
    by_cases hj : j < 0 ∨ 8 ≤ j
    · rw [if_pos hj]
    · rw [if_neg hj] at h ⊢
      exact setBads_none l r _ h
theorem setBads_len : ∀ (l : List Int) (bs b2 : List Bool), setBads l bs = some b2 → b2.length = bs.length
  | [], bs, b2, h => by
    simp [setBads] at h
    rw [h]
  | j :: l, bs, b2, h => by
    simp only [setBads] at h
    by_cases hj : j < 0 ∨ 8 ≤ j
    · rw [if_pos hj] at h
      cases h
    · rw [if_neg hj] at h
      rw [setBads_len l _ b2 h, List.length_set]
theorem setBads_at {l : List Int} {n : Nat} {i : Int} {bs b2 : List Bool} (h : setBads (l.take n) bs = some b2) (hi : l[n]? = some i) :
    (i < 0 ∨ 8 ≤ i → setBads l bs = none) ∧ (¬ (i < 0 ∨ 8 ≤ i) → setBads (l.take (n + 1)) bs = some (b2.set i.toNat true)) := by
  have hn := (List.getElem?_eq_some_iff.1 hi).1
  have ht : l.take (n + 1) = l.take n ++ [i] := by
    rw [List.take_add_one, hi]
    rfl
  have hs := setBads_snoc (l.take n) i bs
  rw [h, ← ht] at hs
  refine ⟨fun hb => ?_, fun hb => ?_⟩
  · rw [Option.bind_some, if_pos hb] at hs
    have := setBads_none _ (l.drop (n + 1)) _ hs
    rwa [List.take_append_drop] at this
  · rw [Option.bind_some, if_neg hb] at hs
    exact hs
def LoadEnd (w : World) (o : Option Chp) (PCh : World → (Nat → Prop) → Nat → Chp → Prop) (e : Ending) (w' : World) : Prop :=
  Below w.heap.size w w' ∧ (o = none → e = .returned (.tuple #[.pointer none, .int .i64 2])) ∧ ∀ c, o = some c → ∃ g, e = .returned (.tuple #[.pointer (some ⟨g, 0, none⟩), .int .i64 0]) ∧ PCh w' (fsh w w') g c
theorem may8 : mayG ((8 : Nat) : Int) ((4 : Nat) : Int) ((128 : Nat) : Int) ((0 : Nat) : Int) := by decide
theorem loadC_ok {xs : List UInt8} {bs : List Bool} (hx : xs.length = 4096) (hb : bs.length = 8) : ChOk (loadC xs bs) :=
  ⟨(by decide : 8 ≤ 8), (by decide : 8 ≤ 64), (by decide : 4 ≤ 4), (by decide : 4 ≤ 32), (by decide : 128 ≤ 128), (by decide : 128 ≤ 256), (by decide : 0 ≤ 4), hx.trans (show 4096 = 8 * (4 * 128) by decide), hb⟩
end Go.Proofs.Ytlcdabmclcfagaa
