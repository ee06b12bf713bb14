import Derived.Deep.QuietTactic
import Derived.BigQuiet
import Derived.Test.YtlioclicopakbaaMRows
import Derived.Test.YtlioclicopakbaaByteM
import Derived.Test.YtlioclicopakbaaPgsM
set_option linter.unusedVariables false
set_option linter.unusedSimpArgs false
/- Rows of numbers of the call's own: append of one. -/
namespace Go.Proofs.Ytlioclicopakbaa
open Go.RowKit

def iv (xs : List Nat) : List Value := xs.map fun (k : Nat) => .int .i64 (k : Int)
theorem iv_length (xs : List Nat) : (iv xs).length = xs.length := by simp [iv]
def OwnI (e : TypeId) (w : World) (base : Nat) (v : Value) (xs : List Nat) : Prop := w.ownsRow base e 1 v xs.length (iv xs)
theorem OwnI.nil (e : TypeId) (w : World) (base : Nat) : OwnI e w base (.slice none 0 0) [] := World.ownsRow_nil w base e 1
theorem OwnI.blk {e : TypeId} {w : World} {base : Nat} {v : Value} {xs : List Nat} (h : OwnI e w base v xs) {k : Nat} (hk : v.ownBlock = some k) : base ≤ k ∧ k < w.heap.size := World.ownsRow.lt h k hk
theorem OwnI.below {e : TypeId} {w w' : World} {base : Nat} {v : Value} {xs : List Nat} (h : OwnI e w base v xs) (hb : Below w.heap.size w w') : OwnI e w' base v xs :=
  World.ownsRow.kept h (grown_of_below hb none) (by cases v.ownBlock with | none => exact .inl rfl | some k => exact .inr (by simp))
theorem OwnI.kept {e : TypeId} {w w' : World} {base : Nat} {v : Value} {xs : List Nat} {row : Option Nat} (h : OwnI e w base v xs) (hg : w.grownBy w' row) (hne : v.ownBlock = none ∨ v.ownBlock ≠ row) : OwnI e w' base v xs :=
  World.ownsRow.kept h hg hne
theorem OwnI.lower {e : TypeId} {w : World} {base b : Nat} {v : Value} {xs : List Nat} (h : OwnI e w base v xs) (hb : b ≤ base) : OwnI e w b v xs := by
  refine ⟨h.1, ?_⟩
  rcases h.2 with h | ⟨g, cap, cur, e1, e2, e3⟩
  · exact .inl h
  · exact .inr ⟨g, cap, cur, e1, Nat.le_trans hb e2, e3⟩
theorem OwnI.slice {e : TypeId} {w : World} {base : Nat} {v : Value} {xs : List Nat} (h : OwnI e w base v xs) : ∃ A c, v = .slice A xs.length c ∧ RV w A (iv xs) ∧ xs.length ≤ c ∧ c ≤ maxLen := by
  rcases h.2 with ⟨hv, h0⟩ | ⟨g, cap, cur, hv, hb, hg, hnc, hcm, hcs, htake⟩
  · have hx : xs = [] := List.eq_nil_of_length_eq_zero h0
    subst hx
    exact ⟨none, 0, hv, RV.nil _ _, Nat.zero_le _, by decide⟩
  · refine ⟨some ⟨g, 0, none⟩, cap, hv, fun _ => ⟨_, rfl, fun j u hu => ?_⟩, hnc, hcm⟩
    exact World.ownsRow.cells (g := g) h (by rw [hv]; rfl) _ _ hu
theorem run_appI {P : Program} (W : World) (base : Nat) (t ty e : TypeId) (i : TypeInfo) (z : Value) (ht : P.underlying t = some (.slice e)) (hi : P.info? e = some i) (hz : i.zero = some z)
    (hsize : i.size = 1) (hby : i.bytes = 8) (hzs : z.cells.size = 1) (v : Value) (xs : List Nat) (hown : OwnI e W base v xs) (k : Nat)
    (h63 : xs.length ≤ 17592186044416) (hbase : base ≤ W.heap.size) :
    ∃ v' w', (Builtin.append_ #[t, t] ty #[v, .slice (some ⟨W.heap.size, 0, none⟩) 1 1]).run P (W.alloc (.cells #[.int .i64 (k : Int)] e)) = .ok v' w' ∧ OwnI e w' base v' (xs ++ [k]) ∧ W.grownBy w' v.ownBlock := by
  have hnews : ∀ j x, [Value.int .i64 (k : Int)][j]? = some x → (W.alloc (.cells #[.int .i64 (k : Int)] e)).cell? ((⟨W.heap.size, 0, none⟩ : Addr).add j) = some x := by
    intro j x hx
    rw [add_lit0, (Blk.new W e #[.int .i64 (k : Int)]).cell]
    simpa using hx
  obtain ⟨v', w', hrun, h2, h3, h4⟩ := run_appV (P := P) (W.alloc (.cells #[.int .i64 (k : Int)] e)) base t ty e i z 1 8 ht hi hz hsize hby hzs (by decide) v xs.length _ (World.ownsRow.alloc hown _) _ 1 1 [.int .i64 (k : Int)] rfl hnews
    (by intro u hu; rw [List.mem_singleton] at hu; subst hu; rfl) (by unfold maxLen; omega) (by omega) (by rw [show (W.alloc (.cells #[.int .i64 (k : Int)] e)).heap.size = W.heap.size + 1 by simp]; omega)
  refine ⟨v', w', hrun, ?_, grown_trans (World.grownBy_alloc W _ _) h3⟩
  unfold OwnI
  rw [List.length_append]
  simpa [iv] using h2
theorem wpList_appI {P : Program} (W : World) {ops : Array Oper} {rest : List Oper} {o : Oper} {a' : Act} {Q : Exit → Act → World → Prop} (hgd : o.guard = none) (s x : Operand) (t : TypeId)
    (hop : o.op = .call { callee := .builtin .append, args := #[s, x], argTypes := #[t, t] })
    (base : Nat) (e : TypeId) (i : TypeInfo) (z : Value) (ht : P.underlying t = some (.slice e)) (hi : P.info? e = some i) (hz : i.zero = some z)
    (hsize : i.size = 1) (hby : i.bytes = 8) (hzs : z.cells.size = 1) (v : Value) (xs : List Nat) (hs : a'.eval s = v) (hown : OwnI e W base v xs) (k : Nat) (H : Nat) (hH : W.heap.size = H) (hx : a'.eval x = .slice (some ⟨H, 0, none⟩) 1 1)
    (h63 : xs.length ≤ 17592186044416) (hbase : base ≤ W.heap.size)
    (h : ∀ v' w', OwnI e w' base v' (xs ++ [k]) → W.grownBy w' v.ownBlock → wpList P ops Q rest (a'.put o.dst v') w') :
    wpList P ops Q (o :: rest) a' (W.alloc (.cells #[.int .i64 (k : Int)] e)) := by
  subst hH
  refine wpList_plain hgd fun _ hK => ?_
  obtain ⟨v', w', hrun, h2, h3⟩ := run_appI (P := P) W base t o.type e i z ht hi hz hsize hby hzs v xs hown k h63 hbase
  unfold Oper.wp execOp
  simp only [hop, resolve, invoke, builtin, Sem.run_bind, Sem.run_pure, Result.andThen_ok, List.map_toArray, List.map_cons, List.map_nil, hs, hx, hrun]
  exact hK _ _ (h v' w' h2 h3)
theorem int_info : (Try.prog.info? 3).map (fun i => (i.zero.map (·.cells.size), i.size, i.bytes)) = some (some 1, 1, 8) := by kernel_rfl
theorem int_info' : ∃ i z, Try.prog.info? 3 = some i ∧ i.zero = some z ∧ i.size = 1 ∧ i.bytes = 8 ∧ z.cells.size = 1 := by
  obtain ⟨i, hi, he⟩ := Option.map_eq_some_iff.1 int_info
  simp only [Prod.mk.injEq] at he
  obtain ⟨z, hz, hz5⟩ := Option.map_eq_some_iff.1 he.1
  exact ⟨i, z, hi, hz, he.2.1, he.2.2, hz5⟩
end Go.Proofs.Ytlioclicopakbaa

/- Keys in memory. -/
namespace Go.Proofs.Ytlioclicopakbaa
open Go.RowKit

def kyCells (k : Ky) (v : Value) : List Value := [.int .i64 k.ino, .int .u8 (k.what.toNat : Int), .string k.name, .int .i64 k.chunk]
def kyVal (k : Ky) : List UInt8 := []
abbrev KeysIn (w : World) (A : Option Addr) (n : Nat) (l : List Ky) : Prop := ListIn kyCells kyVal okKy 4 w A n l
abbrev OwnY (w : World) (base : Nat) (v : Value) (n : Nat) (l : List Ky) : Prop := OwnL kyCells kyVal okKy 4 33 w base v n l
theorem ky_len (c : Ky) (v : Value) : (kyCells c v).length = 4 := rfl
theorem ky_one (c : Ky) (A : Option Addr) (n d : Nat) : ∀ u ∈ kyCells c (.slice A n d), u.oneCell' = true := by
  intro u hu
  simp only [kyCells, List.mem_cons, List.not_mem_nil, or_false] at hu
  rcases hu with rfl | rfl | rfl | rfl <;> rfl
theorem ky_info : (Try.prog.info? 33).map (fun i => (i.zero.map (·.cells.size), i.size, i.bytes)) = some (some 4, 4, 40) := by kernel_rfl
theorem ky_info' : ∃ i z, Try.prog.info? 33 = some i ∧ i.zero = some z ∧ i.size = 4 ∧ i.bytes = 40 ∧ z.cells.size = 4 := by
  obtain ⟨i, hi, he⟩ := Option.map_eq_some_iff.1 ky_info
  simp only [Prod.mk.injEq] at he
  obtain ⟨z, hz, hz5⟩ := Option.map_eq_some_iff.1 he.1
  exact ⟨i, z, hi, hz, he.2.1, he.2.2, hz5⟩
theorem noVal (w : World) (row : Option Nat) : ValB w row (.slice none 0 0) [] := ⟨none, 0, rfl, RV.nil _ _, Nat.le_refl _, by decide, fun _ h => by cases h⟩
/-- A key, cell by cell. -/
theorem KeysIn.at_ {w : World} {A : Option Addr} {n : Nat} {l : List Ky} (h : KeysIn w A n l) {i : Nat} {c : Ky} (hi : l[i]? = some c) :
    okKy c ∧ ∃ ad, A = some ad ∧ (ad.add (i * 4)).block < w.heap.size ∧
      w.cell? (ad.add (i * 4)) = some (.int .i64 c.ino) ∧ w.cell? ⟨(ad.add (i * 4)).block, (ad.add (i * 4)).off + 1, none⟩ = some (.int .u8 (c.what.toNat : Int)) ∧ w.cell? ⟨(ad.add (i * 4)).block, (ad.add (i * 4)).off + 2, none⟩ = some (.string c.name) ∧
      w.cell? ⟨(ad.add (i * 4)).block, (ad.add (i * 4)).off + 3, none⟩ = some (.int .i64 c.chunk) := by
  obtain ⟨h1, ad, v, h2, _, h4⟩ := h.2 i c hi
  have c0 := h4 0 _ rfl
  rw [add_zero] at c0
  exact ⟨h1, ad, h2, World.block_lt_of_cell? w _ c0, c0, h4 1 _ rfl, h4 2 _ rfl, h4 3 _ rfl⟩
/-- Numbers; an error. -/
def IntsEnd (w : World) (r : List Nat × Nat) (e : Ending) (w' : World) : Prop :=
  ∃ v, e = .returned (.tuple #[v, .int .i64 (r.2 : Int)]) ∧ OwnI 3 w' w.heap.size v r.1 ∧ Below w.heap.size w w'
end Go.Proofs.Ytlioclicopakbaa

/- Contract of the statements' own comparison of numbers. -/
namespace Go.Proofs.Ytlioclicopakbaa
open Go.RowKit

theorem iv_get (l : List Nat) (j : Nat) : (iv l)[j]? = (l[j]?).map fun (k : Nat) => Value.int .i64 (k : Int) := by simp [iv]
theorem rvI_lit (w : World) (e : TypeId) (k : Nat) : RV (w.alloc (.cells #[.int .i64 (k : Int)] e)) (some ⟨w.heap.size, 0, none⟩) (iv [k]) := fun _ => ⟨_, rfl, fun j u hu => by
  rw [add_lit0, (Blk.new w e #[.int .i64 (k : Int)]).cell]
  simpa [iv] using hu⟩

set_option maxHeartbeats 400000 in
theorem ints_any (A B : Option Addr) (c d : Nat) (xs ys : List Nat) (w : World) (ha : RV w A (iv xs)) (hb : RV w B (iv ys)) (lx : xs.length ≤ maxLen) (ly : ys.length ≤ maxLen) :
    Calls Try.prog 10 #[.slice A xs.length c, .slice B ys.length d] w fun e w' => e = .returned (.bool (decide (xs = ys))) ∧ Drawn w w' := by
  unfold maxLen at lx ly
  by_cases hl : xs.length = ys.length
  · have Hl := Lib.hid hl
    have hn : ((xs.length : Int) != (ys.length : Int)) = false := by simp [hl]
    have Ha := Lib.hid ha
    have Hb := Lib.hid hb
    clear ha hb hl
    go_enter Try.func10, Try.ntmps10
    go_wp2_with fail
    go_loopg [5] (xs.length) (fun k i wr => ∃ j n : Nat, j + k = xs.length ∧ i = .int .i64 j ∧ wr = w.drewN n ∧ xs.take j = ys.take j)
    case atStart => exact ⟨0, 0, by omega, rfl, rfl, rfl⟩
    case round =>
      obtain ⟨j, n, hj, rfl, rfl, ht⟩ := hrel
      have Ht := Lib.hid ht
      have Hj := Lib.hid hj
      by_cases hlt : j < xs.length
      · obtain ⟨ad, rfl, hc⟩ := Ha.out (by rw [iv_length]; omega)
        obtain ⟨bd, rfl, hd⟩ := Hb.out (by rw [iv_length]; have := Hl.out; omega)
        have hj2 : j < ys.length := by have := Hl.out; omega
        have e1 : xs[j]? = some xs[j] := List.getElem?_eq_getElem hlt
        have e2 : ys[j]? = some ys[j] := List.getElem?_eq_getElem hj2
        generalize xs[j] = a at e1
        generalize ys[j] = b at e2
        have c1 := hc j (.int .i64 (a : Int)) (by rw [iv_get, e1]; rfl)
        have c2 := hd j (.int .i64 (b : Int)) (by rw [iv_get, e2]; rfl)
        have E1 := Lib.hid e1
        have E2 := Lib.hid e2
        clear hc hd e1 e2 ht hj
        by_cases hab : a = b
        · subst hab
          have hne : xs.take (j + 1) = ys.take (j + 1) := by rw [List.take_add_one, List.take_add_one, E1.out, E2.out, Ht.out]
          have Hne := Lib.hid hne
          clear hne
          go_wp2_with fail
          go_quiet (fail)
          go_wp2_with fail
          go_roundg (xs.length - (j + 1))
          case measure => have := Hj.out; omega
          case rel => exact ⟨j + 1, n + nq, by omega, by go_num, rfl, Hne.out⟩
        · have tne : ((a : Int) != (b : Int)) = true := by simp; omega
          have hne : xs ≠ ys := by
            intro h
            rw [h, E2.out] at E1
            exact hab (Option.some.inj E1.out).symm
          have Hne := Lib.hid hne
          clear hne hab
          go_wp2_with fail
          go_quiet (fail)
          go_wp2_with fail
          go_ret
          exact ⟨ret_bool (decide_eq_false Hne.out).symm, (Drawn.mk w n).step nq⟩
      · have hj0 : j = xs.length := by have := Hj.out; omega
        subst hj0
        go_wp2_with fail
        go_ret
        have h1 := Ht.out
        rw [List.take_of_length_le (Nat.le_refl _), List.take_of_length_le (by have := Hl.out; omega)] at h1
        exact ⟨ret_bool (decide_eq_true h1).symm, Drawn.mk w n⟩
  · have hn : ((xs.length : Int) != (ys.length : Int)) = true := by simp; omega
    have hne : xs ≠ ys := fun h => hl (by rw [h])
    have Hne := Lib.hid hne
    clear hl hne
    go_enter Try.func10, Try.ntmps10
    go_wp2_with fail
    go_ret
    exact ⟨ret_bool (decide_eq_false Hne.out).symm, Drawn.refl w⟩
/-- .. of the same numbers. -/
theorem ints_eq (A B : Option Addr) (c d n m : Nat) (xs : List Nat) (w : World) (ha : RV w A (iv xs)) (hb : RV w B (iv xs)) (hn : xs.length = n) (hm : xs.length = m) (lx : n ≤ maxLen) :
    Calls Try.prog 10 #[.slice A n c, .slice B m d] w fun e w' => e = .returned (.bool true) ∧ Below w.heap.size w w' := by
  subst hn
  subst hm
  exact (ints_any A B c d xs xs w ha hb lx lx).mono fun e w' ⟨he, hd⟩ => ⟨by rw [he, decide_eq_true rfl], hd.below _⟩
end Go.Proofs.Ytlioclicopakbaa

/- Two rows of the call's own that grow side by side. -/
namespace Go.Proofs.Ytlioclicopakbaa
open Go.RowKit

/-- Two values lie in blocks of their own. -/
def Apart (u v : Value) : Prop := v.ownBlock = none ∨ v.ownBlock ≠ u.ownBlock
theorem Apart.symm {u v : Value} (h : Apart u v) : Apart v u := by
  unfold Apart at *
  rcases h with h | h
  · cases hu : u.ownBlock with
    | none => exact .inl rfl
    | some k => exact .inr (by rw [h]; simp)
  · exact .inr (Ne.symm h)
theorem Apart.nil (v : Value) : Apart v (.slice none 0 0) := .inl rfl
/-- One of them is a new row now. -/
theorem Apart.new {w : World} {u u' v : Value} (h : Apart u v) (hu : u'.ownBlock = u.ownBlock ∨ ∃ k, u'.ownBlock = some k ∧ w.heap.size ≤ k) (hv : ∀ k, v.ownBlock = some k → k < w.heap.size) : Apart u' v := by
  unfold Apart at *
  rcases hu with hu | ⟨k, hu, hk⟩
  · rw [hu]; exact h
  · cases hvb : v.ownBlock with
    | none => exact .inl rfl
    | some j =>
      refine .inr ?_
      rw [hu]
      intro e
      injection e with e
      have := hv j hvb
      omega
theorem OwnY.kept {w w' : World} {base : Nat} {v : Value} {n : Nat} {l : List Ky} {row : Option Nat} (h : OwnY w base v n l) (hg : w.grownBy w' row) (hne : v.ownBlock = none ∨ v.ownBlock ≠ row) : OwnY w' base v n l := by
  obtain ⟨ps, h1, h2, h3, h4⟩ := h
  refine ⟨ps, h1, h2, h3.kept hg hne, fun p hp => ⟨(h4 p hp).1, ?_⟩⟩
  obtain ⟨A, c, e1, hr, l1, l2, l3⟩ := (h4 p hp).2
  exact ⟨A, c, e1, RV.nil _ _, l1, l2, l3⟩
theorem run_appIV {P : Program} (W : World) (base : Nat) (t ty e : TypeId) (i : TypeInfo) (z : Value) (ht : P.underlying t = some (.slice e)) (hi : P.info? e = some i) (hz : i.zero = some z)
    (hsize : i.size = 1) (hby : i.bytes = 8) (hzs : z.cells.size = 1) (v : Value) (xs : List Nat) (hown : OwnI e W base v xs) (k : Nat)
    (h63 : xs.length ≤ 17592186044416) (hbase : base ≤ W.heap.size) :
    ∃ v' w', (Builtin.append_ #[t, t] ty #[v, .slice (some ⟨W.heap.size, 0, none⟩) 1 1]).run P (W.alloc (.cells #[.int .i64 (k : Int)] e)) = .ok v' w' ∧ OwnI e w' base v' (xs ++ [k]) ∧ W.grownBy w' v.ownBlock ∧
      (v'.ownBlock = v.ownBlock ∨ ∃ k, v'.ownBlock = some k ∧ W.heap.size ≤ k) := by
  have hnews : ∀ j x, [Value.int .i64 (k : Int)][j]? = some x → (W.alloc (.cells #[.int .i64 (k : Int)] e)).cell? ((⟨W.heap.size, 0, none⟩ : Addr).add j) = some x := by
    intro j x hx
    rw [add_lit0, (Blk.new W e #[.int .i64 (k : Int)]).cell]
    simpa using hx
  obtain ⟨v', w', hrun, h2, h3, h4⟩ := run_appV (P := P) (W.alloc (.cells #[.int .i64 (k : Int)] e)) base t ty e i z 1 8 ht hi hz hsize hby hzs (by decide) v xs.length _ (World.ownsRow.alloc hown _) _ 1 1 [.int .i64 (k : Int)] rfl hnews
    (by intro u hu; rw [List.mem_singleton] at hu; subst hu; rfl) (by unfold maxLen; omega) (by omega) (by rw [show (W.alloc (.cells #[.int .i64 (k : Int)] e)).heap.size = W.heap.size + 1 by simp]; omega)
  refine ⟨v', w', hrun, ?_, grown_trans (World.grownBy_alloc W _ _) h3, ?_⟩
  · unfold OwnI
    rw [List.length_append]
    simpa [iv] using h2
  · rcases h4 with h4 | h4
    · exact .inl h4
    · exact .inr ⟨_, h4, by simp⟩
theorem wpList_appIV {P : Program} (W : World) {ops : Array Oper} {rest : List Oper} {o : Oper} {a' : Act} {Q : Exit → Act → World → Prop} (hgd : o.guard = none) (s x : Operand) (t : TypeId)
    (hop : o.op = .call { callee := .builtin .append, args := #[s, x], argTypes := #[t, t] })
    (base : Nat) (e : TypeId) (i : TypeInfo) (z : Value) (ht : P.underlying t = some (.slice e)) (hi : P.info? e = some i) (hz : i.zero = some z)
    (hsize : i.size = 1) (hby : i.bytes = 8) (hzs : z.cells.size = 1) (v : Value) (xs : List Nat) (hs : a'.eval s = v) (hown : OwnI e W base v xs) (k : Nat) (H : Nat) (hH : W.heap.size = H) (hx : a'.eval x = .slice (some ⟨H, 0, none⟩) 1 1)
    (h63 : xs.length ≤ 17592186044416) (hbase : base ≤ W.heap.size)
    (h : ∀ v' w', OwnI e w' base v' (xs ++ [k]) → W.grownBy w' v.ownBlock → (v'.ownBlock = v.ownBlock ∨ ∃ k, v'.ownBlock = some k ∧ W.heap.size ≤ k) → wpList P ops Q rest (a'.put o.dst v') w') :
    wpList P ops Q (o :: rest) a' (W.alloc (.cells #[.int .i64 (k : Int)] e)) := by
  subst hH
  refine wpList_plain hgd fun _ hK => ?_
  obtain ⟨v', w', hrun, h2, h3, h4⟩ := run_appIV (P := P) W base t o.type e i z ht hi hz hsize hby hzs v xs hown k h63 hbase
  unfold Oper.wp execOp
  simp only [hop, resolve, invoke, builtin, Sem.run_bind, Sem.run_pure, Result.andThen_ok, List.map_toArray, List.map_cons, List.map_nil, hs, hx, hrun]
  exact hK _ _ (h v' w' h2 h3 h4)
end Go.Proofs.Ytlioclicopakbaa
