import Derived.Lib.SliceRun
import Derived.Test.YtlcdabmclcfagaaNdMM
import Derived.Test.YtlcdabmclcfagaaMRows
set_option linter.unusedVariables false
set_option linter.unusedSimpArgs false
/- Rows of truth values; slices.Clone of them: contract. -/
namespace Go.Proofs.Ytlcdabmclcfagaa
open Go.RowKit

theorem wpList_appV {P : Program} (w : World) {ops : Array Oper} {rest : List Oper} {o : Oper} {a' : Act} {Q : Exit → Act → World → Prop} (hgd : o.guard = none) (s x : Operand) (t : TypeId)
    (hop : o.op = .call { callee := .builtin .append, args := #[s, x], argTypes := #[t, t] })
    (base : Nat) (e : TypeId) (i : TypeInfo) (z : Value) (size bytes : Nat) (ht : P.underlying t = some (.slice e)) (hi : P.info? e = some i) (hz : i.zero = some z)
    (hsize : i.size = size) (hby : i.bytes = bytes) (hzs : z.cells.size = size) (hsz : 0 < size)
    (v : Value) (n : Nat) (xs : List Value) (hs : a'.eval s = v) (hown : w.ownsRow base e size v n xs)
    (ad : Addr) (m c : Nat) (news : List Value) (hx : a'.eval x = .slice (some ad) m c) (hl : news.length = m * size) (hnews : ∀ j u, news[j]? = some u → w.cell? (ad.add j) = some u) (h1 : ∀ u ∈ news, u.oneCell' = true)
    (h63 : n + m ≤ maxLen) (hbytes : ((n + m) + (n + m) / 4 + 192) * bytes ≤ 281474976710656) (hbase : base ≤ w.heap.size)
    (h : ∀ v' w', w'.ownsRow base e size v' (n + m) (xs ++ news) → w.grownBy w' v.ownBlock → wpList P ops Q rest (a'.put o.dst v') w') :
    wpList P ops Q (o :: rest) a' w := by
  refine wpList_plain hgd fun _ hK' => ?_
  obtain ⟨v', w', hrun, h2, h3, _⟩ := run_appV (P := P) w base t o.type e i z size bytes ht hi hz hsize hby hzs hsz v n xs hown ad m c news hl hnews h1 h63 hbytes hbase
  unfold Oper.wp execOp
  simp only [hop, resolve, invoke, builtin, Sem.run_bind, Sem.run_pure, Result.andThen_ok, List.map_toArray, List.map_cons, List.map_nil, hs, hx, hrun]
  exact hK' _ _ (h v' w' h2 h3)
theorem bool_info : (Try.prog.info? 4).map (fun i => (i.zero.map (·.cells.size), i.size, i.bytes)) = some (some 1, 1, 1) := by kernel_rfl
theorem bool_info' : ∃ i z, Try.prog.info? 4 = some i ∧ i.zero = some z ∧ i.size = 1 ∧ i.bytes = 1 ∧ z.cells.size = 1 := by
  obtain ⟨i, hi, he⟩ := Option.map_eq_some_iff.1 bool_info
  simp only [Prod.mk.injEq] at he
  obtain ⟨z, hz, hz5⟩ := Option.map_eq_some_iff.1 he.1
  exact ⟨i, z, hi, hz, he.2.1, he.2.2, hz5⟩
/-- Truth values of the call's own. -/
def OwnBo (w : World) (base : Nat) (v : Value) (bs : List Bool) : Prop :=
  ∃ g td, v = .slice (some ⟨g, 0, none⟩) bs.length (bs.length + td.length) ∧ base ≤ g ∧ Blk w g 4 (bs.map Value.bool ++ td).toArray ∧ bs.length + td.length ≤ maxLen
theorem OwnBo.below {w w' : World} {base : Nat} {v : Value} {bs : List Bool} (h : OwnBo w base v bs) (hb : Below w.heap.size w w') : OwnBo w' base v bs := by
  obtain ⟨g, td, h1, h2, h3, h4⟩ := h
  exact ⟨g, td, h1, h2, h3.below hb h3.lt, h4⟩
theorem OwnBo.of_row {w : World} {base n : Nat} {v : Value} {bs : List Bool} (h : w.ownsRow base 4 1 v n (bs.map Value.bool)) (hn : 0 < n) : OwnBo w base v bs := by
  have hl : bs.length = n := by have := h.1; rw [List.length_map, Nat.mul_one] at this; exact this
  rcases h.2 with ⟨hv, h0⟩ | ⟨g, cap, cur, hv, hb, hg, hnc, hcm, hcs, htake⟩
  · omega
  · rw [Nat.mul_one] at hcs htake
    have hcl : cur.toList.length = cap := by simpa using hcs
    have e : bs.map Value.bool ++ cur.toList.drop n = cur.toList := by rw [← htake, List.take_append_drop]
    have el : (cur.toList.drop n).length = cap - n := by rw [List.length_drop, hcl]
    refine ⟨g, cur.toList.drop n, ?_, hb, ?_, by omega⟩
    · rw [hv, el, hl]
      congr 1
      omega
    · rw [e, Array.toArray_toList]
      exact hg
theorem bools_one (bs : List Bool) : ∀ u ∈ bs.map Value.bool, u.oneCell' = true := by
  intro u hu
  obtain ⟨_, _, rfl⟩ := List.mem_map.1 hu
  rfl
theorem own_lit0V (w : World) (e : TypeId) : (w.alloc (.cells #[] e)).ownsRow w.heap.size e 1 (.slice (some ⟨w.heap.size, 0, none⟩) 0 0) 0 [] :=
  ⟨rfl, .inr ⟨w.heap.size, 0, #[], rfl, Nat.le_refl _, Blk.new w e #[], Nat.le_refl _, by decide, rfl, rfl⟩⟩

set_option maxRecDepth 100000 in
set_option maxHeartbeats 400000 in
theorem cloneBo (w : World) (ad : Addr) (n c : Nat) (bs : List Bool) (hn : bs.length = n) (h0 : 0 < n) (hr : RV w (some ad) (bs.map Value.bool)) (hx : n ≤ 140737488355328) :
    Calls Try.prog 45 #[.slice (some ad) n c] w fun e w' => ∃ v, e = .returned v ∧ OwnBo w' w.heap.size v bs ∧ Below w.heap.size w w' := by
  obtain ⟨ii, iz, hii, hiz, hi1, hi2, hi3⟩ := bool_info'
  have hb := (Below.refl w.heap.size w).alloc (Nat.le_refl _) (.cells #[] 4)
  have HR := Lib.hid (And.intro hn (And.intro (own_lit0V w 4) (And.intro hb (hr.below hb))))
  clear hr hb hn
  go_enter Try.func45, Try.ntmps45
  go_wp2_with fail
  rw [Lib.run_eql_slice_nil w 54 4 _ _ _ _ _ Try.underlying54]
  simp only [Option.isNone_some]
  go_wp2_with (at_builtin; refine wpList_appV _ rfl _ _ 54 rfl w.heap.size 4 ii iz 1 1 Try.underlying54 hii hiz hi1 hi2 hi3 (by decide) (.slice (some ⟨w.heap.size, 0, none⟩) 0 0) 0 [] rfl HR.out.2.1 ad n c (bs.map Value.bool) rfl (by rw [List.length_map, HR.out.1, Nat.mul_one]) (fun j u hu => by
      obtain ⟨ad', hA, hc⟩ := HR.out.2.2.2 (by rw [List.length_map, HR.out.1]; exact h0)
      injection hA with hA
      subst hA
      exact hc j u hu) (bools_one bs) ?_ ?_ ?_ ?_)
  · unfold maxLen; omega
  · omega
  · simp
  intro v w1 hown hg
  have hb1 := HR.out.2.2.1.grown hg (by simp) (fun k e => by simp [Value.ownBlock] at e; omega)
  have HX := Lib.hid (And.intro (OwnBo.of_row hown h0) hb1)
  clear hown hg hb1
  go_wp2
  go_ret
  exact ⟨v, rfl, HX.out.1, HX.out.2⟩
end Go.Proofs.Ytlcdabmclcfagaa
