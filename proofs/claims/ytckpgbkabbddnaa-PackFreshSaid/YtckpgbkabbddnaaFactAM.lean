import Derived.Test.YtckpgbkabbddnaaFactNM
set_option linter.unusedVariables false
set_option linter.unusedSimpArgs false
/- The document's Apply: contract. -/
namespace Go.Proofs.Ytckpgbkabbddnaa
open Go.RowKit

section
variable {α : Type} {cell : α → Value → List Value} {val : α → List UInt8} {ok : α → Prop} {sz : Nat}
theorem listIn_ps {w : World} {A : Option Addr} {n : Nat} {l : List α} (hsz : ∀ a v, (cell a v).length = sz) (h0 : 0 < sz) (h : ListIn cell val ok sz w A n l) :
    ∃ ps : List (α × Value), ps.map (·.1) = l ∧ RV w A (ps.flatMap fun p => cell p.1 p.2) ∧ ∀ p ∈ ps, ok p.1 ∧ ValB w none p.2 (val p.1) := by
  have main : ∀ k, k ≤ l.length → ∃ ps : List (α × Value), ps.map (·.1) = l.take k ∧ (∀ ad, A = some ad → ∀ i p, ps[i]? = some p → ∀ t u, (cell p.1 p.2)[t]? = some u → w.cell? ((ad.add (i * sz)).add t) = some u) ∧ ∀ p ∈ ps, ok p.1 ∧ ValB w none p.2 (val p.1) := by
    intro k
    induction k with
    | zero => exact fun _ => ⟨[], by simp, fun _ _ i p hp => by simp at hp, fun _ hp => by cases hp⟩
    | succ k ih =>
      intro hk
      obtain ⟨ps, h1, h2, h3⟩ := ih (by omega)
      have hkl : k < l.length := by omega
      obtain ⟨ho, ad, v, hA, hv, hc⟩ := h.2 k _ (List.getElem?_eq_getElem hkl)
      have hpl : ps.length = k := by
        have := congrArg List.length h1
        rw [List.length_map, List.length_take] at this
        omega
      refine ⟨ps ++ [(l[k], v)], ?_, ?_, ?_⟩
      · rw [List.map_append, h1, List.take_add_one, List.getElem?_eq_getElem hkl]
        rfl
      · intro ad' hA' i p hp t u hu
        rcases Nat.lt_or_ge i ps.length with hi | hi
        · rw [List.getElem?_append_left hi] at hp
          exact h2 ad' hA' i p hp t u hu
        · rw [List.getElem?_append_right hi] at hp
          have hi0 : i - ps.length = 0 := by
            have := (List.getElem?_eq_some_iff.1 hp).1
            simp at this
            omega
          rw [hi0] at hp
          injection hp with hp
          subst hp
          rw [hA] at hA'
          injection hA' with hA'
          subst hA'
          have : i = k := by omega
          subst this
          exact hc t u hu
      · intro p hp
        rcases List.mem_append.1 hp with hp | hp
        · exact h3 p hp
        · rw [List.mem_singleton] at hp
          subst hp
          exact ⟨ho, hv⟩
  obtain ⟨ps, h1, h2, h3⟩ := main l.length (Nat.le_refl _)
  rw [List.take_length] at h1
  refine ⟨ps, h1, ?_, h3⟩
  intro hpos
  have hne : 0 < ps.length := by
    cases ps with
    | nil => simp at hpos
    | cons p ps => simp
  obtain ⟨a0, ha0⟩ : ∃ a, l[0]? = some a := by
    rw [← h1]
    exact ⟨_, List.getElem?_eq_getElem (by simpa using hne)⟩
  obtain ⟨_, ad, _, hA, _⟩ := h.2 0 a0 ha0
  refine ⟨ad, hA, fun j u hu => ?_⟩
  have hdm : j = (j / sz) * sz + j % sz := by rw [Nat.mul_comm]; exact (Nat.div_add_mod j sz).symm
  have hlt : j % sz < sz := Nat.mod_lt _ h0
  rw [hdm, flat_get (f := fun p : α × Value => cell p.1 p.2) (fun p => hsz p.1 p.2) _ hlt] at hu
  obtain ⟨p, hp, hpu⟩ := Option.bind_eq_some_iff.1 hu
  have := h2 ad hA _ p hp _ u hpu
  rw [add_add] at this
  rw [hdm]
  exact this
/-- append(nil, l...): the list, as a row of the call's own. -/
theorem run_copyL {P : Program} (w : World) (base : Nat) (t ty e : TypeId) (i : TypeInfo) (z : Value) (bytes : Nat) (ht : P.underlying t = some (.slice e)) (hi : P.info? e = some i) (hz : i.zero = some z)
    (hsize : i.size = sz) (hby : i.bytes = bytes) (hzs : z.cells.size = sz) (h0 : 0 < sz) (hsz : ∀ a v, (cell a v).length = sz) (hone : ∀ a A n c, ∀ u ∈ cell a (.slice A n c), u.oneCell' = true)
    (A : Option Addr) (n d : Nat) (l : List α) (h : ListIn cell val ok sz w A n l) (h63 : n ≤ maxLen) (hbytes : (n + n / 4 + 192) * bytes ≤ 281474976710656) (hbase : base ≤ w.heap.size) :
    ∃ v' w', (Builtin.append_ #[t, t] ty #[.slice none 0 0, .slice A n d]).run P w = .ok v' w' ∧ OwnL cell val ok sz e w' base v' n l ∧ Below w.heap.size w w' ∧ (v'.ownBlock = none ∨ v'.ownBlock = some w.heap.size) := by
  obtain ⟨ps, h1, h2, h3⟩ := listIn_ps hsz h0 h
  have hpl : ps.length = n := by rw [← h.1, ← h1, List.length_map]
  by_cases hn : n = 0
  · subst hn
    have hl : l = [] := List.eq_nil_of_length_eq_zero h.1
    subst hl
    refine ⟨.slice none 0 0, w, ?_, OwnL.nil _ _ _, Below.refl _ _, .inl rfl⟩
    cases A <;> simp [Builtin.append_, run_underlying ht, sizeOf, typeInfo, hi, Builtin.lenOf, Builtin.firstCells, loadCells, loadCellsFrom]
  · have hfl : (ps.flatMap fun p => cell p.1 p.2).length = n * sz := by
      rw [← hpl]
      clear h1 h2 h3 hpl
      induction ps with
      | nil => simp
      | cons p ps ih => simp only [List.flatMap_cons, List.length_append, hsz, ih, List.length_cons, Nat.add_mul]; omega
    have hpos : 0 < n * sz := Nat.mul_pos (by omega) h0
    obtain ⟨ad, rfl, hcells⟩ := h2 (by rw [hfl]; exact hpos)
    have hone' : ∀ u ∈ ps.flatMap fun p => cell p.1 p.2, u.oneCell' = true := by
      intro u hu
      obtain ⟨p, hp, hu⟩ := List.mem_flatMap.1 hu
      obtain ⟨_, A', c', hv, _⟩ := h3 p hp
      rw [hv] at hu
      exact hone _ _ _ _ u hu
    obtain ⟨v', w', hrun, ho, hg, hv⟩ := run_appV (P := P) w base t ty e i z sz bytes ht hi hz hsize hby hzs h0 (.slice none 0 0) 0 [] (World.ownsRow_nil w base e sz) ad n d _ hfl hcells hone' (by omega) (by simpa using hbytes) hbase
    simp only [Nat.zero_add, List.nil_append] at ho
    have hb : Below w.heap.size w w' := grown_none hg
    refine ⟨v', w', hrun, ⟨ps, h1, hpl, ho, fun p hp => ⟨(h3 p hp).1, ?_⟩⟩, hb, ?_⟩
    · rcases hv with hv | hv
      · rw [hv]; exact (h3 p hp).2.below hb
      · rw [hv]
        exact ((h3 p hp).2.fresh (Nat.le_refl _)).below hb
    · rcases hv with hv | hv
      · exact .inl hv
      · exact .inr hv
theorem wpList_copyL {P : Program} (w : World) {ops : Array Oper} {rest : List Oper} {o : Oper} {a' : Act} {Q : Exit → Act → World → Prop} (hgd : o.guard = none) (s x : Operand) (t : TypeId)
    (hop : o.op = .call { callee := .builtin .append, args := #[s, x], argTypes := #[t, t] })
    (base : Nat) (e : TypeId) (i : TypeInfo) (z : Value) (bytes : Nat) (ht : P.underlying t = some (.slice e)) (hi : P.info? e = some i) (hz : i.zero = some z)
    (hsize : i.size = sz) (hby : i.bytes = bytes) (hzs : z.cells.size = sz) (h0 : 0 < sz) (hsz : ∀ a v, (cell a v).length = sz) (hone : ∀ a A n c, ∀ u ∈ cell a (.slice A n c), u.oneCell' = true)
    (A : Option Addr) (n d : Nat) (l : List α) (hs : a'.eval s = .slice none 0 0) (hx : a'.eval x = .slice A n d) (h : ListIn cell val ok sz w A n l) (h63 : n ≤ maxLen) (hbytes : (n + n / 4 + 192) * bytes ≤ 281474976710656) (hbase : base ≤ w.heap.size)
    (hK : ∀ v' w', OwnL cell val ok sz e w' base v' n l → Below w.heap.size w w' → (v'.ownBlock = none ∨ v'.ownBlock = some w.heap.size) → wpList P ops Q rest (a'.put o.dst v') w') :
    wpList P ops Q (o :: rest) a' w := by
  refine wpList_plain hgd fun _ hK' => ?_
  obtain ⟨v', w', hrun, h2, h3, h4⟩ := run_copyL (P := P) w base t o.type e i z bytes ht hi hz hsize hby hzs h0 hsz hone A n d l h h63 hbytes hbase
  unfold Oper.wp execOp
  simp only [hop, resolve, invoke, builtin, Sem.run_bind, Sem.run_pure, Result.andThen_ok, List.map_toArray, List.map_cons, List.map_nil, hs, hx, hrun]
  exact hK' _ _ (hK v' w' h2 h3 h4)
end
theorem foldl_oneF_len (cs : List Chg) : ∀ l : List Fct, (cs.foldl oneF l).length ≤ l.length + cs.length := by
  induction cs with
  | nil => intro l; simp
  | cons c cs ih =>
    intro l
    have h1 := ih (oneF l c)
    have h2 : (oneF l c).length ≤ l.length + 1 := oneGo_len _ _ _
    simp only [List.foldl_cons, List.length_cons]
    omega

set_option maxRecDepth 100000 in
set_option maxHeartbeats 2000000 in
theorem dApply_any (w : World) (A : Option Addr) (n d : Nat) (l : List Fct) (h : FctsIn w A n l) (B : Option Addr) (q e : Nat) (cs : List Chg) (hcs : ChgsIn w B q cs) (hvl : ∀ c ∈ cs, c.val.length ≤ 140737488351232)
    (hn : (n + q) * 64 ≤ 140737488351232) :
    Calls Try.prog 12 #[.slice A n d, .slice B q e] w
      fun e w' => ∃ v, e = .returned v ∧ OwnF w' w.heap.size v (applyF l cs).length (applyF l cs) ∧ Below w.heap.size w w' := by
  have H := Lib.hid (And.intro h (And.intro h.1 (And.intro hcs (And.intro hcs.1 hvl))))
  have HO := Lib.hid (fun w => (fun h' => dOrdered_any w A n d l h' (by omega)))
  clear h hcs hvl
  obtain ⟨ii, iz, hii, hiz, hi1, hi2, hi3⟩ := fct_info'
  by_cases hord : ordB l = true
  · have happ : applyF l cs = cs.foldl oneF l := if_pos hord
    rw [happ]
    have HR := Lib.hid hord
    clear hord happ
    go_enter Try.func12, Try.ntmps12
    go_wp2_with (first | (go_at_call 33; refine (HO.out _ H.out.1).mono ?_; rintro e w1 ⟨rfl, hb1⟩; rw [HR.out]; have H1 := Lib.hid (And.intro (ListIn.below fct_len (by decide) H.out.1 hb1) hb1); have hs1 := hb1.size; clear hb1) | (at_builtin; refine wpList_copyL (cell := fctCells) (val := Fct.val) (ok := fun c => okKy c.key) (sz := 5) _ rfl _ _ 22 rfl w.heap.size 41 ii iz 64 Try.underlying22 hii hiz hi1 hi2 hi3 (by decide) fct_len fct_one A n d l rfl rfl H1.out.1 ?_ ?_ ?_ ?_))
    · unfold maxLen; omega
    · omega
    · exact hs1
    intro v2 w2 ho2 hb2 hv2
    have hbb := below_then H1.out.2 H1.out.2.size hb2
    have hlen := OwnL.len ho2
    have H2 := Lib.hid (And.intro ho2 hbb)
    clear ho2 hb2 hv2 hbb
    go_wp2_with fail
    go_loopg [5, 6] q (fun k v i wr => ∃ j : Nat, j + k = q ∧ i = .int .i64 j ∧ OwnF wr w.heap.size v ((cs.take j).foldl oneF l).length ((cs.take j).foldl oneF l) ∧ Below w.heap.size w wr)
    case atStart => exact ⟨0, by omega, rfl, by simpa [hlen] using H2.out.1, H2.out.2⟩
    case round =>
      obtain ⟨j, hj, rfl, ho, hb⟩ := hrel
      have HX := Lib.hid (And.intro hj (And.intro ho hb))
      clear hj ho hb
      by_cases hlt : j < q
      · obtain ⟨c, hc⟩ : ∃ c, cs[j]? = some c := ⟨_, List.getElem?_eq_getElem (by have := H.out.2.2.2.1; omega)⟩
        obtain ⟨hok, ad, B1, dd, hA, hrv, hl1, hl2, hblk, c0, c1, c2, c3, c4, c5⟩ := ChgsIn.at_ H.out.2.2.1 hc
        subst hA
        have up : ∀ {p : Addr} {u : Value}, w.cell? p = some u → p.block = (ad.add (j * 6)).block → wr.cell? p = some u := fun hu hp => (World.cell?_of_block (HX.out.2.2.block _ (by rw [hp]; exact hblk))).trans hu
        have d0 := up c0 rfl
        have d1 := up c1 rfl
        have d2 := up c2 rfl
        have d3 := up c3 rfl
        have d4 := up c4 rfl
        have d5 := up c5 rfl
        have hvl := H.out.2.2.2.2 c (List.mem_of_getElem? hc)
        have hfd : (cs.take (j + 1)).foldl oneF l = oneF ((cs.take j).foldl oneF l) c := by
          rw [List.take_add_one, hc, List.foldl_append]
          rfl
        have hfl := foldl_oneF_len (cs.take j) l
        rw [List.length_take, H.out.2.1] at hfl
        obtain ⟨A5, e5, rfl, hin, _, _, _⟩ := OwnL.listIn fct_len HX.out.2.1
        have HF := Lib.hid (And.intro hfd (And.intro hok (And.intro (hrv.below HX.out.2.2) (And.intro hvl hin))))
        clear c0 c1 c2 c3 c4 c5 up hfd hc hok hrv hl1 hl2 hblk hin hvl
        generalize (cs.take j).foldl oneF l = L at *
        obtain ⟨⟨i, a, s, ch⟩, x, gn⟩ := c
        dsimp only at d0 d1 d2 d3 d4 d5 HF
        generalize hM : L.length = M at *
        go_wp2_with fail
        refine (dOne_any wr A5 M e5 L HF.out.2.2.2.2 (by omega) ⟨i, a, s, ch⟩ HF.out.2.1 B1 dd x HF.out.2.2.1 HF.out.2.2.2.1 gn).mono ?_
        rintro e w3 ⟨v3, rfl, ho3, hb3⟩
        rw [← HF.out.1] at ho3
        have H3 := Lib.hid (And.intro (ho3.lower HX.out.2.2.size) (below_then HX.out.2.2 HX.out.2.2.size hb3))
        clear ho3 hb3
        go_wp2_with fail
        go_roundg (q - (j + 1))
        case measure => have := HX.out.1; omega
        case rel => exact ⟨j + 1, by have := HX.out.1; omega, by go_num, H3.out.1, H3.out.2⟩
      · obtain rfl : j = q := by have := HX.out.1; omega
        have hge : ¬ (j : Int) < (j : Int) := by omega
        have ho := HX.out.2.1
        rw [List.take_of_length_le (by rw [H.out.2.2.2.1]; exact Nat.le_refl _)] at ho
        have H3 := Lib.hid ho
        clear ho
        go_wp2_with fail
        go_ret
        exact ⟨_, rfl, H3.out, HX.out.2.2⟩
  · have hord' : ordB l = false := by simpa using hord
    have happ : applyF l cs = [] := if_neg hord
    rw [happ]
    have HR := Lib.hid hord'
    clear hord hord' happ
    go_enter Try.func12, Try.ntmps12
    go_wp2_with (go_at_call 33; refine (HO.out _ H.out.1).mono ?_; rintro e w1 ⟨rfl, hb1⟩; rw [HR.out]; have H1 := Lib.hid hb1; clear hb1)
    go_ret
    exact ⟨_, rfl, OwnL.nil _ _ _, H1.out⟩
end Go.Proofs.Ytckpgbkabbddnaa
