import Derived.Deep.RegionLaw
import Derived.Laws.CopyOwn
import Derived.Test.YtlcdabmclcfagaaMBase
set_option linter.unusedVariables false
set_option linter.unusedSimpArgs false
/- append onto a slice of bytes of the call's own, the source nil, empty or not: what it answers is known whole, spare cells too. -/
namespace Go.Proofs.Ytlcdabmclcfagaa
open Go.RowKit

section
variable {P : Program} (w : World)

theorem zeroCells_byte (k : Nat) : (Builtin.zeroCells #[Value.int .u8 0] k).toList = bv (List.replicate k 0) := by
  apply List.ext_getElem
  · simp [Builtin.zeroCells, bv]
  · intro i h1 h2
    simp [Builtin.zeroCells, bv, Nat.mod_one]

theorem app_info {P : Program} {e : TypeId} (hinfo : (P.info? e).map (fun i => (i.zero, i.size, i.bytes)) = some (some (.int .u8 0), 1, 1)) :
    ∃ i, P.info? e = some i ∧ i.zero = some (.int .u8 0) ∧ i.size = 1 ∧ i.bytes = 1 := by
  obtain ⟨i, hi, hzz⟩ := Option.map_eq_some_iff.1 hinfo
  simp only [Prod.mk.injEq] at hzz
  exact ⟨i, hi, hzz.1, hzz.2.1, hzz.2.2⟩

theorem run_appB (base : Nat) (t ty e : TypeId) (ht : P.underlying t = some (.slice e)) (hinfo : (P.info? e).map (fun i => (i.zero, i.size, i.bytes)) = some (some (.int .u8 0), 1, 1))
    (v : Value) (xs : List UInt8) (hown : OwnB e w base v xs) (A : Option Addr) (m c : Nat) (ys : List UInt8) (hm : ys.length = m) (hr : RV w A (bv ys)) (hsz : xs.length + ys.length ≤ 140737488355328) (hbase : base ≤ w.heap.size) :
    ∃ v' w', (Builtin.append_ #[t, t] ty #[v, .slice A m c]).run P w = .ok v' w' ∧ OwnB e w' base v' (xs ++ ys) ∧ w.grownBy w' v.ownBlock ∧
      (v'.ownBlock = v.ownBlock ∨ v'.ownBlock = some w.heap.size) := by
  obtain ⟨i, hi, hz0, hz1, hz2⟩ := app_info hinfo
  subst hm
  have hcz : (Value.int IntKind.u8 0).cells = #[.int .u8 0] := rfl
  -- what a new array is
  have fresh : ∀ (k : Nat), k ≤ maxLen → ys.length + xs.length ≤ k →
      OwnB e (w.drew.alloc (.cells ((bv xs).toArray ++ (bv ys).toArray ++ Builtin.zeroCells #[.int .u8 0] (k - (xs.length + ys.length))) e)) base (.slice (some ⟨w.heap.size, 0, none⟩) (xs.length + ys.length) k) (xs ++ ys) ∧
      w.grownBy (w.drew.alloc (.cells ((bv xs).toArray ++ (bv ys).toArray ++ Builtin.zeroCells #[.int .u8 0] (k - (xs.length + ys.length))) e)) v.ownBlock := by
    intro k hk hle
    have hc : (bv xs).toArray ++ (bv ys).toArray ++ Builtin.zeroCells #[.int .u8 0] (k - (xs.length + ys.length)) = (bv (xs ++ ys ++ List.replicate (k - (xs.length + ys.length)) 0)).toArray := by
      apply Array.toList_inj.1
      simp only [Array.toList_append, bv_append, zeroCells_byte]
    rw [hc]
    refine ⟨.inr ⟨w.heap.size, _, ?_, hbase, RowB.new w.drew e _, ?_, ?_⟩, ⟨rfl, rfl, rfl, by simp, fun j hj _ => Below.heap_alloc w.drew _ j hj⟩⟩
    · simp
      omega
    · rw [List.take_left]
    · simp
      omega
  rcases A with _ | ad
  · have hy : ys = [] := by
      rcases Nat.eq_zero_or_pos ys.length with h0 | h0
      · exact List.eq_nil_of_length_eq_zero h0
      · obtain ⟨ad, h, _⟩ := hr (by rw [bv_length]; exact h0)
        cases h
    subst hy
    refine ⟨v, w, ?_, by simpa using hown, World.grownBy.refl w _, .inl rfl⟩
    rcases hown with ⟨rfl, rfl⟩ | ⟨g, full, rfl, hb, hrow, htk, hml⟩
    · simp [Builtin.append_, run_underlying ht, sizeOf, typeInfo, hi, Builtin.lenOf, Builtin.firstCells]
    · have hl := OwnB.len (g := g) htk
      simp [Builtin.append_, run_underlying ht, sizeOf, typeInfo, hi, Builtin.lenOf, Builtin.firstCells, hl, storeCells]
  · have hcells : ∀ j u, (bv ys)[j]? = some u → w.cell? (ad.add j) = some u := by
      intro j u hu
      have h0 : 0 < (bv ys).length := by have := (List.getElem?_eq_some_iff.1 hu).1; omega
      obtain ⟨ad', h, hc⟩ := hr h0
      injection h with h
      subst h
      exact hc j u hu
    have hly : (bv ys).length = ys.length * i.size := by rw [bv_length, hz1, Nat.mul_one]
    rcases hown with ⟨rfl, rfl⟩ | ⟨g, full, rfl, hb, hrow, htk, hml⟩
    · by_cases h0 : ys.length = 0
      · obtain rfl : ys = [] := List.eq_nil_of_length_eq_zero h0
        refine ⟨.slice none 0 0, w, ?_, by simpa using OwnB.nil e w base, World.grownBy.refl w _, .inl rfl⟩
        simp [Builtin.append_, run_underlying ht, sizeOf, typeInfo, hi, Builtin.lenOf, Builtin.firstCells, loadCells, loadCellsFrom]
      · have hrun := run_append_nil (P := P) w t ty e i _ ht hi hz0 ad ys.length c (bv ys) hly hcells (by omega) (by simp at hsz; omega) (by rw [hz2]; simp at hsz; omega)
        rw [hcz] at hrun
        have hge := grownCap_ge w ys.length 0 e
        have hle := grownCap_le_maxLen w ys.length 0 e (by simp at hsz; unfold maxLen; omega)
        have hf := fresh (grownCap w ys.length 0 e) hle (by simpa using hge)
        simp only [List.length_nil, Nat.zero_add, List.nil_append] at hf ⊢
        refine ⟨_, _, hrun, ?_, ?_, .inr rfl⟩
        · simpa [bv] using hf.1
        · simpa [bv] using hf.2
    · have hl := OwnB.len (g := g) htk
      by_cases hroom : xs.length + ys.length ≤ full.length
      · have hrun := run_append_room (P := P) w t ty e i ht hi g xs.length full.length (bv full).toArray hrow ad ys.length c (bv ys) hly hcells (bv_oneCell ys) hroom (by rw [hz1, bv_length]; simp [bv_length]; omega)
        refine ⟨_, _, hrun, .inr ⟨g, full.take xs.length ++ ys ++ full.drop (xs.length + ys.length), ?_, hb, ?_, ?_, ?_⟩, ⟨rfl, rfl, rfl, by simp, fun k _ hk => setRow_other w g k _ (fun e => hk (by simp [Value.ownBlock, e]))⟩, .inl rfl⟩
        · simp
          omega
        · have := setRow_heap w g (bv full).toArray ((bv full).toArray.toList.take (xs.length * i.size) ++ bv ys ++ (bv full).toArray.toList.drop (xs.length * i.size + (bv ys).length)).toArray e _ hrow
          unfold RowB
          rw [this]
          simp [bv_append, bv_take, bv_drop, hz1, bv_length]
        · rw [htk, List.take_left]
        · simp
          omega
      · have holds : ∀ j u, (bv xs)[j]? = some u → w.cell? ((⟨g, 0, none⟩ : Addr).add j) = some u := by
          obtain ⟨A', c', he, hrv, _, _, _⟩ := OwnB.slice (base := base) (.inr ⟨g, full, rfl, hb, hrow, htk, hml⟩ : OwnB e w base _ xs)
          injection he with hA
          subst hA
          intro j u hu
          obtain ⟨ad', h, hc⟩ := hrv (by have := (List.getElem?_eq_some_iff.1 hu).1; omega)
          injection h with h
          subst h
          exact hc j u hu
        have hrun := run_append_grow (P := P) w t ty e i _ ht hi hz0 ⟨g, 0, none⟩ xs.length full.length (bv xs) (by rw [bv_length, hz1, Nat.mul_one]) holds ad ys.length c (bv ys) hly hcells (by omega) (by omega) (growslice_fits (by omega) (by rw [hz2]; omega))
        rw [hcz] at hrun
        have hge := grownCap_ge w (xs.length + ys.length) full.length e
        have hle := grownCap_le_maxLen w (xs.length + ys.length) full.length e (by unfold maxLen; omega)
        have hf := fresh (grownCap w (xs.length + ys.length) full.length e) hle (by omega)
        exact ⟨_, _, hrun, hf.1, hf.2, .inr rfl⟩

theorem wp_appB {o : Oper} {a : Act} {K : Act → World → Prop} {Q : Exit → Act → World → Prop} (s x : Operand) (t : TypeId)
    (ho : o.op = .call { callee := .builtin .append, args := #[s, x], argTypes := #[t, t] })
    (base : Nat) (e : TypeId) (ht : P.underlying t = some (.slice e)) (hinfo : (P.info? e).map (fun i => (i.zero, i.size, i.bytes)) = some (some (.int .u8 0), 1, 1))
    (v : Value) (xs : List UInt8) (hs : a.eval s = v) (hown : OwnB e w base v xs) (A : Option Addr) (m c : Nat) (ys : List UInt8) (hx : a.eval x = .slice A m c) (hm : ys.length = m) (hr : RV w A (bv ys)) (hsz : xs.length + ys.length ≤ 140737488355328) (hbase : base ≤ w.heap.size)
    (h : ∀ v' w', OwnB e w' base v' (xs ++ ys) → w.grownBy w' v.ownBlock → (v'.ownBlock = v.ownBlock ∨ v'.ownBlock = some w.heap.size) → K (a.put o.dst v') w') : o.wp P a w K Q := by
  obtain ⟨v', w', hrun, h2, h3, h4⟩ := run_appB (P := P) w base t o.type e ht hinfo v xs hown A m c ys hm hr hsz hbase
  unfold Oper.wp execOp
  simp only [ho, resolve, invoke, builtin, Sem.run_bind, Sem.run_pure, Result.andThen_ok, List.map_toArray, List.map_cons, List.map_nil, hs, hx, hrun]
  exact h v' w' h2 h3 h4

theorem wpList_appB {ops : Array Oper} {rest : List Oper} {o : Oper} {a : Act} {Q : Exit → Act → World → Prop} (hgd : o.guard = none) (s x : Operand) (t : TypeId)
    (ho : o.op = .call { callee := .builtin .append, args := #[s, x], argTypes := #[t, t] })
    (base : Nat) (e : TypeId) (ht : P.underlying t = some (.slice e)) (hinfo : (P.info? e).map (fun i => (i.zero, i.size, i.bytes)) = some (some (.int .u8 0), 1, 1))
    (v : Value) (xs : List UInt8) (hs : a.eval s = v) (hown : OwnB e w base v xs) (A : Option Addr) (m c : Nat) (ys : List UInt8) (hx : a.eval x = .slice A m c) (hm : ys.length = m) (hr : RV w A (bv ys)) (hsz : xs.length + ys.length ≤ 140737488355328) (hbase : base ≤ w.heap.size)
    (h : ∀ v' w', OwnB e w' base v' (xs ++ ys) → w.grownBy w' v.ownBlock → (v'.ownBlock = v.ownBlock ∨ v'.ownBlock = some w.heap.size) → wpList P ops Q rest (a.put o.dst v') w') : wpList P ops Q (o :: rest) a w :=
  wpList_plain hgd fun _ hK => wp_appB w s x t ho base e ht hinfo v xs hs hown A m c ys hx hm hr hsz hbase fun v' w' h2 h3 h4 => hK _ _ (h v' w' h2 h3 h4)

theorem step_appB {ops : Array Oper} {o : Oper} {a : Act} {K : Act → World → Prop} {Q : Exit → Act → World → Prop} {E : Prop} (hgd : o.guard = none) (s x : Operand) (t : TypeId)
    (ho : o.op = .call { callee := .builtin .append, args := #[s, x], argTypes := #[t, t] })
    (base : Nat) (e : TypeId) (ht : P.underlying t = some (.slice e)) (hinfo : (P.info? e).map (fun i => (i.zero, i.size, i.bytes)) = some (some (.int .u8 0), 1, 1))
    (v : Value) (xs : List UInt8) (hs : a.eval s = v) (hown : OwnB e w base v xs) (A : Option Addr) (m c : Nat) (ys : List UInt8) (hx : a.eval x = .slice A m c) (hm : ys.length = m) (hr : RV w A (bv ys)) (hsz : xs.length + ys.length ≤ 140737488355328) (hbase : base ≤ w.heap.size)
    (h : ∀ v' w', OwnB e w' base v' (xs ++ ys) → w.grownBy w' v.ownBlock → (v'.ownBlock = v.ownBlock ∨ v'.ownBlock = some w.heap.size) → K (a.put o.dst v') w') :
    if Region.wanted o (yielded ops a.tmps) = true then Oper.wp P o a w K Q else E := by
  have hw : Region.wanted o (yielded ops a.tmps) = true := by simp [Region.wanted, hgd]
  rw [if_pos hw]
  exact wp_appB w s x t ho base e ht hinfo v xs hs hown A m c ys hx hm hr hsz hbase h
end
end Go.Proofs.Ytlcdabmclcfagaa
