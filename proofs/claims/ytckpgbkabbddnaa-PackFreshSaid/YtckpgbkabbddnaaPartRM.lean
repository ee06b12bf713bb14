import Derived.Test.YtckpgbkabbddnaaMPlain
import Derived.Test.YtckpgbkabbddnaaMRows
import Derived.Test.YtckpgbkabbddnaaMApp
set_option linter.unusedVariables false
set_option linter.unusedSimpArgs false
/- Rows of the call's own of rows of facts of the call's own, over values that were there before. -/
namespace Go.Proofs.Ytckpgbkabbddnaa
open Go.RowKit

/-- A value that was there before. -/
def OldV (w : World) (B : Nat) (u : Value) (x : List UInt8) : Prop := ∃ A c, u = .slice A x.length c ∧ RV w A (bv x) ∧ x.length ≤ c ∧ c ≤ maxLen ∧ ∀ ad, A = some ad → 0 < x.length → ad.block < B
theorem OldV.valB {w : World} {B : Nat} {u : Value} {x : List UInt8} (h : OldV w B u x) {row : Option Nat} (hr : ∀ k, row = some k → B ≤ k) : ValB w row u x := by
  obtain ⟨A, c, e, hv, l1, l2, l3⟩ := h
  refine ⟨A, c, e, hv, l1, l2, fun ad e2 h0 he => ?_⟩
  have := l3 ad e2 h0
  have := hr _ he.symm
  omega
theorem OldV.kept {w w' : World} {B : Nat} {u : Value} {x : List UInt8} (h : OldV w B u x) {row : Option Nat} (hg : w.grownBy w' row) (hr : ∀ k, row = some k → B ≤ k) : OldV w' B u x := by
  obtain ⟨A, c, e, hv, l1, l2, l3⟩ := h
  refine ⟨A, c, e, hv.grown hg (fun ad e2 h0 he => ?_), l1, l2, l3⟩
  have := l3 ad e2 (by rwa [bv_length] at h0)
  have := hr _ he.symm
  omega
theorem OldV.below {w w' : World} {B : Nat} {u : Value} {x : List UInt8} (h : OldV w B u x) (hb : Below w.heap.size w w') : OldV w' B u x := by
  obtain ⟨A, c, e, hv, l1, l2, l3⟩ := h
  exact ⟨A, c, e, hv.below hb, l1, l2, l3⟩
/-- A row of facts of the call's own. -/
def PF (w : World) (B : Nat) (v : Value) (n : Nat) (l : List Fct) : Prop := ∃ ps : List (Fct × Value), OwnPs fctCells Fct.val (fun c => okKy c.key) 5 41 w B v n ps ∧ ps.map (·.1) = l ∧ ∀ p ∈ ps, OldV w B p.2 p.1.val
theorem PF.nil (w : World) (B : Nat) : PF w B (.slice none 0 0) 0 [] := ⟨[], OwnPs.nil _ _ _, rfl, fun _ h => by cases h⟩
theorem PF.len {w : World} {B : Nat} {v : Value} {n : Nat} {l : List Fct} (h : PF w B v n l) : l.length = n := by
  obtain ⟨ps, h1, rfl, _⟩ := h
  rw [List.length_map]
  exact h1.1
theorem PF.blk {w : World} {B : Nat} {v : Value} {n : Nat} {l : List Fct} (h : PF w B v n l) {k : Nat} (hk : v.ownBlock = some k) : B ≤ k ∧ k < w.heap.size := by
  obtain ⟨ps, h1, _⟩ := h
  exact OwnPs.blk h1 hk
theorem PF.kept {w w' : World} {B : Nat} {v : Value} {n : Nat} {l : List Fct} (h : PF w B v n l) {row : Option Nat} (hg : w.grownBy w' row) (hr : ∀ k, row = some k → B ≤ k) (hne : v.ownBlock = none ∨ v.ownBlock ≠ row) : PF w' B v n l := by
  obtain ⟨ps, h1, h2, h3⟩ := h
  exact ⟨ps, OwnPs.kept h1 hg hne (fun p hp => (h3 p hp).valB hr), h2, fun p hp => (h3 p hp).kept hg hr⟩
theorem PF.below {w w' : World} {B : Nat} {v : Value} {n : Nat} {l : List Fct} (h : PF w B v n l) (hb : Below w.heap.size w w') : PF w' B v n l := by
  obtain ⟨ps, h1, h2, h3⟩ := h
  exact ⟨ps, OwnPs.below h1 hb, h2, fun p hp => (h3 p hp).below hb⟩
theorem PF.listIn {w : World} {B : Nat} {v : Value} {n : Nat} {l : List Fct} (h : PF w B v n l) : ∃ A c, v = .slice A n c ∧ FctsIn w A n l ∧ n ≤ c ∧ c ≤ maxLen := by
  obtain ⟨ps, h1, rfl, _⟩ := h
  obtain ⟨A, c, e, h2, h3, h4, _⟩ := OwnL.listIn fct_len (OwnPs.list h1)
  exact ⟨A, c, e, h2, h3, h4⟩
/-- Rows of rows of facts. -/
def PP (w : World) (B : Nat) (v : Value) (n : Nat) (ls : List (List Fct)) : Prop :=
  ∃ vs : List (List Fct × Value), vs.map (·.1) = ls ∧ vs.length = n ∧ w.ownsRow B 22 1 v n (vs.map (·.2)) ∧ ∀ p ∈ vs, PF w B p.2 p.1.length p.1 ∧ (p.2.ownBlock = none ∨ p.2.ownBlock ≠ v.ownBlock)
/-- None of the rows lies in a block. -/
def PPOff (w : World) (B : Nat) (v : Value) (n : Nat) (ls : List (List Fct)) (u : Option Nat) : Prop :=
  ∃ vs : List (List Fct × Value), vs.map (·.1) = ls ∧ vs.length = n ∧ w.ownsRow B 22 1 v n (vs.map (·.2)) ∧ (v.ownBlock = none ∨ v.ownBlock ≠ u) ∧ ∀ p ∈ vs, PF w B p.2 p.1.length p.1 ∧ (p.2.ownBlock = none ∨ p.2.ownBlock ≠ v.ownBlock) ∧ (p.2.ownBlock = none ∨ p.2.ownBlock ≠ u)
theorem PPOff.nil (w : World) (B : Nat) (u : Option Nat) : PPOff w B (.slice none 0 0) 0 [] u := ⟨[], rfl, rfl, World.ownsRow_nil w B _ 1, .inl rfl, fun _ h => by cases h⟩
theorem PPOff.pp {w : World} {B : Nat} {v : Value} {n : Nat} {ls : List (List Fct)} {u : Option Nat} (h : PPOff w B v n ls u) : PP w B v n ls := by
  obtain ⟨vs, h1, h2, h3, _, h5⟩ := h
  exact ⟨vs, h1, h2, h3, fun p hp => ⟨(h5 p hp).1, (h5 p hp).2.1⟩⟩
theorem PPOff.blk {w : World} {B : Nat} {v : Value} {n : Nat} {ls : List (List Fct)} {u : Option Nat} (h : PPOff w B v n ls u) {k : Nat} (hk : v.ownBlock = some k) : B ≤ k ∧ k < w.heap.size := by
  obtain ⟨vs, h1, h2, h3, _⟩ := h
  exact h3.lt k hk
theorem PPOff.below {w w' : World} {B : Nat} {v : Value} {n : Nat} {ls : List (List Fct)} {u : Option Nat} (h : PPOff w B v n ls u) (hb : Below w.heap.size w w') : PPOff w' B v n ls u := by
  obtain ⟨vs, h1, h2, h3, h4, h5⟩ := h
  exact ⟨vs, h1, h2, h3.kept (grown_of_below hb none) (by cases v.ownBlock with | none => exact .inl rfl | some k => exact .inr (by simp)), h4, fun p hp => ⟨(h5 p hp).1.below hb, (h5 p hp).2⟩⟩
/-- The row that is being laid grows. -/
theorem PPOff.grew {w w' : World} {B : Nat} {v : Value} {n : Nat} {ls : List (List Fct)} {u u' : Option Nat} (h : PPOff w B v n ls u) (hg : w.grownBy w' u) (hu : ∀ k, u = some k → B ≤ k) (hu' : u' = u ∨ ∃ k, u' = some k ∧ w.heap.size ≤ k) : PPOff w' B v n ls u' := by
  obtain ⟨vs, h1, h2, h3, h4, h5⟩ := h
  have far : ∀ (x : Option Nat), (∀ k, x = some k → k < w.heap.size) → (x = none ∨ x ≠ u) → (x = none ∨ x ≠ u') := fun x hx hxu => by
    rcases hu' with rfl | ⟨k, rfl, hk⟩
    · exact hxu
    · cases x with
      | none => exact .inl rfl
      | some y =>
        right
        intro e
        injection e with e
        have := hx y rfl
        omega
  exact ⟨vs, h1, h2, h3.kept hg h4, far _ (fun k hk => h3.lt k hk |>.2) h4, fun p hp => ⟨(h5 p hp).1.kept hg hu (h5 p hp).2.2, (h5 p hp).2.1, far _ (fun k hk => ((h5 p hp).1.blk hk).2) (h5 p hp).2.2⟩⟩
/-- A new row is begun. -/
theorem PPOff.anew {w : World} {B : Nat} {v : Value} {n : Nat} {ls : List (List Fct)} (h : PP w B v n ls) : PPOff w B v n ls none := by
  obtain ⟨vs, h1, h2, h3, h5⟩ := h
  refine ⟨vs, h1, h2, h3, ?_, fun p hp => ⟨(h5 p hp).1, (h5 p hp).2, ?_⟩⟩
  · cases v.ownBlock with
    | none => exact .inl rfl
    | some k => exact .inr (by simp)
  · cases p.2.ownBlock with
    | none => exact .inl rfl
    | some k => exact .inr (by simp)
theorem part_info : (Try.prog.info? 22).map (fun i => (i.zero.map (·.cells.size), i.size, i.bytes)) = some (some 1, 1, 24) := by kernel_rfl
theorem part_info' : ∃ i z, Try.prog.info? 22 = some i ∧ i.zero = some z ∧ i.size = 1 ∧ i.bytes = 24 ∧ z.cells.size = 1 := by
  obtain ⟨i, hi, he⟩ := Option.map_eq_some_iff.1 part_info
  simp only [Prod.mk.injEq] at he
  obtain ⟨z, hz, hz5⟩ := Option.map_eq_some_iff.1 he.1
  exact ⟨i, z, hi, hz, he.2.1, he.2.2, hz5⟩
/-- A row more, laid as a literal. -/
theorem wpList_appPP (W : World) {ops : Array Oper} {rest : List Oper} {o : Oper} {a' : Act} {Q : Exit → Act → World → Prop} (hgd : o.guard = none) (s x : Operand)
    (hop : o.op = .call { callee := .builtin .append, args := #[s, x], argTypes := #[74, 74] })
    (B : Nat) (v : Value) (n : Nat) (ls : List (List Fct)) (hs : a'.eval s = v) (u : Value) (m : Nat) (l : List Fct) (hown : PPOff W B v n ls u.ownBlock) (hu : PF W B u m l) (hx : a'.eval x = .slice (some ⟨W.heap.size, 0, none⟩) 1 1)
    (h63 : n + 1 ≤ maxLen) (hbytes : ((n + 1) + (n + 1) / 4 + 192) * 24 ≤ 281474976710656) (hbase : B ≤ W.heap.size)
    (h : ∀ v' w', PP w' B v' (n + 1) (ls ++ [l]) → W.grownBy w' v.ownBlock → wpList Try.prog ops Q rest (a'.put o.dst v') w') :
    wpList Try.prog ops Q (o :: rest) a' (W.alloc (.cells #[u] 22)) := by
  obtain ⟨i, z, hi, hz, hsize, hby, hzs⟩ := part_info'
  refine wpList_plain hgd fun _ hK => ?_
  obtain ⟨vs, h1, h2, h3, h4, h5⟩ := hown
  have hone : u.oneCell' = true := by
    obtain ⟨A, c, rfl, _⟩ := hu.listIn
    rfl
  have hnews : ∀ j y, ([u] : List Value)[j]? = some y → (W.alloc (.cells #[u] 22)).cell? ((⟨W.heap.size, 0, none⟩ : Addr).add j) = some y := by
    intro j y hy
    rw [add_lit0, (Blk.new W 22 #[u]).cell]
    simpa using hy
  obtain ⟨v', w', hrun, q2, q3, q4⟩ := run_appV (P := Try.prog) (W.alloc (.cells #[u] 22)) B 74 o.type 22 i z 1 24 Try.underlying74 hi hz hsize hby hzs (by decide) v n _ (h3.alloc _) _ 1 1 [u] rfl hnews (by intro y hy; rw [List.mem_singleton] at hy; rw [hy]; exact hone) h63 hbytes (by rw [alloc_sz]; omega)
  have hg : W.grownBy w' v.ownBlock := grown_trans (World.grownBy_alloc W _ _) q3
  unfold Oper.wp execOp
  simp only [hop, resolve, invoke, builtin, Sem.run_bind, Sem.run_pure, Result.andThen_ok, List.map_toArray, List.map_cons, List.map_nil, hs, hx, hrun]
  have hvB : ∀ k, v.ownBlock = some k → B ≤ k := fun k hk => (h3.lt k hk).1
  have far : ∀ (y : Option Nat), (∀ k, y = some k → k < W.heap.size) → (y = none ∨ y ≠ v.ownBlock) → (y = none ∨ y ≠ v'.ownBlock) := fun y hy hyv => by
    rcases q4 with e | e
    · rw [e]; exact hyv
    · rw [e, alloc_sz]
      cases y with
      | none => exact .inl rfl
      | some k =>
        right
        intro e
        injection e with e
        have := hy k rfl
        omega
  have huv : u.ownBlock = none ∨ u.ownBlock ≠ v.ownBlock := by
    rcases h4 with h4 | h4
    · cases hub : u.ownBlock with
      | none => exact .inl rfl
      | some k => exact .inr (by rw [h4]; simp)
    · exact .inr (Ne.symm h4)
  refine hK _ _ (h v' w' ⟨vs ++ [(l, u)], by rw [List.map_append, h1]; rfl, by rw [List.length_append, h2]; rfl, by rw [List.map_append]; exact q2, fun p hp => ?_⟩ hg)
  rcases List.mem_append.1 hp with hp | hp
  · obtain ⟨k1, k2, k3⟩ := h5 p hp
    exact ⟨k1.kept hg hvB k2, far _ (fun k hk => (k1.blk hk).2) k2⟩
  · rw [List.mem_singleton] at hp
    subst hp
    have hl := hu.len
    exact ⟨by rw [hl]; exact hu.kept hg hvB huv, far _ (fun k hk => (hu.blk hk).2) huv⟩
end Go.Proofs.Ytckpgbkabbddnaa
