import Derived.Test.YtlcdabmclcfagaaRfDM
import Derived.Test.YtlcdabmclcfagaaNdWM
set_option linter.unusedVariables false
set_option linter.unusedSimpArgs false
/- Layer 3: the document's Erase: contract. -/
namespace Go.Proofs.Ytlcdabmclcfagaa
open Go.RowKit

set_option maxRecDepth 100000 in
set_option maxHeartbeats 2000000 in
theorem rerase_any {w : World} {F : Nat → Prop} {r : Nat} {L : RLay} {c : Chp} (h : RCx w F r L c) (hmk : ∀ x ∈ c.hits, x.mask.length ≤ 140737488355328) (b : Int) :
    Calls Try.prog 61 #[.pointer (some ⟨r, 0, none⟩), .int .i64 b] w (RDoneEnd w F r (eraseS c b)) := by
  obtain ⟨c0, c1, c2, c3, c4, c5, c6, c7, c8, c9⟩ := h.cells
  obtain ⟨R, hR⟩ : ∃ R, eraseS c b = R := ⟨_, rfl⟩
  rw [hR]
  have hdef : eraseS c b = if c.dead then (c, 10) else if ¬ thereS c b 0 then (c, 2) else if c.bad[b.toNat]? = some true then (c, 9) else doneS c b.toNat (b.toNat * c.N) (List.replicate c.N 255) := rfl
  rw [hR] at hdef
  by_cases hd : c.dead = true
  · rw [if_pos hd] at hdef
    rw [hd] at c8
    have HH := Lib.hid h
    clear c0 c1 c2 c3 c4 c5 c6 c7 c9 h
    go_enter Try.func61, Try.ntmps61
    go_wp2_with fail
    go_ret
    rw [hdef]
    exact ⟨rfl, ⟨L, HH.out⟩, Tch.refl _ _⟩
  · rw [if_neg hd] at hdef
    have hd' : c.dead = false := by simpa using hd
    rw [hd'] at c8
    have HT := there_any h b 0
    by_cases ht : thereS c b 0
    · rw [decide_eq_true ht] at HT
      have HT := Lib.hid HT
      rw [if_neg (fun h => h ht)] at hdef
      have ht' := ht
      unfold thereS at ht'
      obtain ⟨q, rfl⟩ : ∃ q : Nat, b = (q : Int) := ⟨b.toNat, by omega⟩
      simp only [Int.toNat_natCast] at hdef
      have hqB : q < c.B := by omega
      obtain ⟨xb, hxb, kb⟩ := h.badAt (b := q) hqB
      have hbB : (q : Int) < (c.B : Int) := by omega
      rw [hxb] at hdef
      cases xb with
      | true =>
        rw [if_pos rfl] at hdef
        have HH := Lib.hid h
        clear c0 c1 c2 c3 c4 c6 c7 c9 h ht ht' hxb
        generalize c.B = B at *
        go_enter Try.func61, Try.ntmps61
        go_wp2_with fail
        refine HT.out.mono ?_
        rintro e w1 ⟨rfl, rfl⟩
        go_wp2_with fail
        go_ret
        rw [hdef]
        exact ⟨rfl, ⟨L, HH.out⟩, Tch.refl _ _⟩
      | false =>
        rw [if_neg (by simp)] at hdef
        have hok := h.ok
        have hn := hok.n
        have hre := hok.row_end hqB
        have hP0 : 0 < c.P := by have := hok.p1; omega
        have HAT := Lib.hid (show ∀ w', Below w.heap.size w w' → Calls Try.prog 55 #[.pointer (some ⟨r, 0, none⟩), .int .i64 (q : Int), .int .i64 0] w' fun e w2 => e = .returned (.int .i64 ((q * c.N : Nat) : Int)) ∧ Drawn w' w2 from fun w' hb' => by
          have h1 := at_any (h.below hb') (b := q) (p := 0) hqB hP0
          rw [Nat.zero_mul, Nat.add_zero] at h1
          exact h1)
        have HD := Lib.hid (show ∀ w' k, Below w.heap.size w w' → RowB 5 w' k (List.replicate c.N 255) → w.heap.size ≤ k → _ from fun w' k hb' hrow hk => rdone_any (cap := c.N) (h.below hb') (b := q) (at_ := q * c.N) (n := c.N) hqB (by rw [← hok.len]; exact hre) (by omega) hmk (List.replicate c.N 255) List.length_replicate (some ⟨k, 0, none⟩) hrow.rv (fun ad hA _ hF => by injection hA with hA; subst hA; exact Nat.lt_irrefl _ (Nat.lt_of_lt_of_le (h.lt _ hF) hk)))
        have HMB := Lib.hid (make_bytes (P := Try.prog) 22 5 Try.underlying22 u8info c.N (by omega))
        have hmul : ((c.P : Int) * (c.S : Int)) = (c.N : Int) := by unfold Chp.N; simp
        have hw1 : IntKind.i64.wrap ((c.P : Int) * (c.S : Int)) = (c.N : Int) := by rw [hmul]; exact IntWalk.i64_in _ (by omega)
        have HC := Lib.hid (show ∀ w', Below w.heap.size w w' → (fun w' : World => w'.cell? ⟨r, 1, none⟩ = some (.int .i64 (c.P : Int)) ∧ w'.cell? ⟨r, 2, none⟩ = some (.int .i64 (c.S : Int))) w' from fun w' hb' => ⟨(h.below hb').cells.2.1, (h.below hb').cells.2.2.1⟩)
        have HR := Lib.hid (And.intro hdef h)
        have hN1 := hn.1
        have hN2 := hn.2.1
        clear c0 c3 c4 c6 c7 c9 h ht ht' hxb hdef hok hn hre hP0 hmul
        generalize c.N = N at *
        generalize c.P = P at *
        generalize c.S = S at *
        generalize c.B = B at *
        go_enter Try.func61, Try.ntmps61
        go_wp2_with fail
        refine HT.out.mono ?_
        rintro e w1 ⟨rfl, rfl⟩
        go_wp2_with fail
        refine wp_region_G (fun w' : World => w'.cell? ⟨r, 1, none⟩ = some (.int .i64 (P : Int)) ∧ w'.cell? ⟨r, 2, none⟩ = some (.int .i64 (S : Int))) 12 13 #[false, false, false, false, false, false, false, false, false, false, false, false, false] (by kernel_rfl) rfl (by kernel_rfl) ?_
        have hS0 : (fun w' : World => w'.cell? ⟨r, 1, none⟩ = some (.int .i64 (P : Int)) ∧ w'.cell? ⟨r, 2, none⟩ = some (.int .i64 (S : Int))) w1.drew := HC.out _ (Below.refl _ _).drew
        dsimp only at hS0
        have hbd := (Below.refl w1.heap.size w1).drew
        have hwd : w1.drew.heap.size = w1.heap.size := rfl
        generalize w1.drew = wd at *
        have HWD := Lib.hid (And.intro hbd hwd)
        clear hbd hwd
        refine wpAnyG_takeL (i := 0) (v := ?v1) (fuel := 12) (listed' := #[true, false, false, false, false, false, false, false, false, false, false, false, false]) rfl (by kernel_rfl) (fun _ _ _ h => h) (.inl ⟨by rfl, ?hy1⟩) (by assumption) (by kernel_rfl) ?rest1
        case hy1 => (intro w' hSw; (try dsimp only at hSw); go_simp; try with_reducible rfl)
        try simp only [Act.put, List.setIfInBounds_toArray, List.set_cons_zero, List.set_cons_succ]
        refine wpAnyG_takeL (i := 1) (v := ?v2) (fuel := 11) (listed' := #[true, true, false, false, false, false, false, false, false, false, false, false, false]) rfl (by kernel_rfl) (fun _ _ _ h => h) (.inl ⟨by rfl, ?hy2⟩) (by assumption) (by kernel_rfl) ?rest2
        case hy2 => (intro w' hSw; (try dsimp only at hSw); go_simp; try with_reducible rfl)
        try simp only [Act.put, List.setIfInBounds_toArray, List.set_cons_zero, List.set_cons_succ]
        refine wpAnyG_takeL (i := 2) (v := ?v3) (fuel := 10) (listed' := #[true, true, true, false, false, false, false, false, false, false, false, false, false]) rfl (by kernel_rfl) (fun _ _ _ h => h) (.inl ⟨by rfl, ?hy3⟩) (by assumption) (by kernel_rfl) ?rest3
        case hy3 => (intro w' hSw; (try dsimp only at hSw); go_simp; try with_reducible rfl)
        try simp only [Act.put, List.setIfInBounds_toArray, List.set_cons_zero, List.set_cons_succ]
        refine wpAnyG_takeL (i := 3) (v := ?v4) (fuel := 9) (listed' := #[true, true, true, true, false, false, false, false, false, false, false, false, false]) rfl (by kernel_rfl) (fun _ _ _ h => h) (.inl ⟨by rfl, ?hy4⟩) (by assumption) (by kernel_rfl) ?rest4
        case hy4 => (intro w' hSw; (try dsimp only at hSw); go_simp; try with_reducible rfl)
        try simp only [Act.put, List.setIfInBounds_toArray, List.set_cons_zero, List.set_cons_succ]
        refine wpAnyG_takeL (i := 4) (v := ?v5) (fuel := 8) (listed' := #[true, true, true, true, true, false, false, false, false, false, false, false, false]) rfl (by kernel_rfl) (fun _ _ _ h => h) (.inl ⟨by rfl, ?hy5⟩) (by assumption) (by kernel_rfl) ?rest5
        case hy5 => (intro w' hSw; (try dsimp only at hSw); go_simp; try with_reducible rfl)
        try simp only [Act.put, List.setIfInBounds_toArray, List.set_cons_zero, List.set_cons_succ]
        refine wpAnyG_takeL (i := 5) (v := ?v6) (fuel := 7) (listed' := #[true, true, true, true, true, true, false, false, false, false, false, false, false]) rfl (by kernel_rfl) (fun _ _ _ h => h) (.inl ⟨by rfl, ?hy6⟩) (by assumption) (by kernel_rfl) ?rest6
        case hy6 => (intro w' hSw; (try dsimp only at hSw); go_simp; try with_reducible rfl)
        try simp only [Act.put, List.setIfInBounds_toArray, List.set_cons_zero, List.set_cons_succ]
        refine wpAnyG_takeL (i := 6) (v := ?v7) (fuel := 6) (listed' := #[true, true, true, true, true, true, true, false, false, false, false, false, false]) rfl (by kernel_rfl) (fun _ _ _ h => h) (.inl ⟨by rfl, ?hy7⟩) (by assumption) (by kernel_rfl) ?rest7
        case hy7 => (intro w' hSw; (try dsimp only at hSw); go_simp; try with_reducible rfl)
        try simp only [Act.put, List.setIfInBounds_toArray, List.set_cons_zero, List.set_cons_succ]
        refine wpAnyG_takeL (i := 7) (v := ?v8) (fuel := 5) (listed' := #[true, true, true, true, true, true, true, true, false, false, false, false, false]) rfl (by kernel_rfl) (fun _ _ _ h => h) (.inl ⟨by rfl, ?hy8⟩) (by assumption) (by kernel_rfl) ?rest8
        case hy8 => (intro w' hSw; (try dsimp only at hSw); go_simp; try with_reducible rfl)
        try simp only [Act.put, List.setIfInBounds_toArray, List.set_cons_zero, List.set_cons_succ]
        refine wpAnyG_takeL (i := 8) (v := ?v9) (fuel := 4) (listed' := #[true, true, true, true, true, true, true, true, true, false, false, false, false]) rfl (by kernel_rfl) (fun _ _ _ h => h) (.inl ⟨by rfl, ?hy9⟩) (by assumption) (by kernel_rfl) ?rest9
        case hy9 => (intro w' hSw; (try dsimp only at hSw); go_simp; try with_reducible rfl)
        try simp only [Act.put, List.setIfInBounds_toArray, List.set_cons_zero, List.set_cons_succ]
        refine wpAnyG_takeL (i := 9) (v := ?v10) (fuel := 3) (listed' := #[true, true, true, true, true, true, true, true, true, true, false, false, false]) rfl (by kernel_rfl) (fun _ _ _ h => h) (.inl ⟨by rfl, ?hy10⟩) (by assumption) (by kernel_rfl) ?rest10
        case hy10 => (intro w' hSw; (try dsimp only at hSw); go_simp; try with_reducible rfl)
        try simp only [Act.put, List.setIfInBounds_toArray, List.set_cons_zero, List.set_cons_succ]
        refine wpAnyG_takeL (i := 10) (v := ?v11) (fuel := 2) (listed' := #[true, true, true, true, true, true, true, true, true, true, true, false, false]) rfl (by kernel_rfl) (fun _ _ _ h => h) (.inl ⟨by rfl, ?hy11⟩) (by assumption) (by kernel_rfl) ?rest11
        case hy11 => (intro w' hSw; (try dsimp only at hSw); go_simp; try with_reducible rfl)
        try simp only [Act.put, List.setIfInBounds_toArray, List.set_cons_zero, List.set_cons_succ]
        refine wpAnyG_oneL (i := 11) (fuel := 1) (listed' := #[true, true, true, true, true, true, true, true, true, true, true, true, false]) rfl (by kernel_rfl) (by kernel_rfl) (by rfl) (fun K hK0 => ?_)
        have hK := Lib.hid hK0
        clear hK0
        have hm2 := HMB.out wd
        rw [HWD.out.2] at hm2
        go_simp
        have hrow := RowB.made wd 5 N
        rw [HWD.out.2] at hrow
        have hbm := below_then HWD.out.1 (by rw [HWD.out.2]; exact Nat.le_refl _) ((Below.refl wd.heap.size wd).alloc (Nat.le_refl _) (.cells (madeCells #[.int .u8 0] N) 5))
        refine hK.out _ _ (.inl (HC.out _ hbm)) ?_
        clear hK K
        try simp only [Act.put, List.setIfInBounds_toArray, List.set_cons_zero, List.set_cons_succ]
        clear hm2 hS0
        generalize wd.alloc (.cells (madeCells #[.int .u8 0] N) 5) = wm at *
        have HW := Lib.hid (And.intro hrow hbm)
        clear hrow hbm
        refine wpAnyG_oneL (i := 12) (fuel := 0) (listed' := #[true, true, true, true, true, true, true, true, true, true, true, true, true]) rfl (by kernel_rfl) (by kernel_rfl) (by rfl) (fun K hK0 => ?_)
        have hK := Lib.hid hK0
        clear hK0
        go_simp
        refine hK.out _ _ (.inr (by decide)) ?_
        clear hK K
        refine wpAnyG_done (by kernel_rfl) ?_ _
        clear c1 c2 c5 c8 kb
        go_wp2_with fail
        go_loopg [6] N (fun k i wr => ∃ j : Nat, j + k = N ∧ i = .int .i64 j ∧ RowB 5 wr w1.heap.size (List.replicate j 255 ++ List.replicate (N - j) 0) ∧ Below w1.heap.size w1 wr)
        case atStart => exact ⟨0, by omega, rfl, by simpa using HW.out.1, HW.out.2⟩
        case round =>
          obtain ⟨j, hj, rfl, hrow, hbw⟩ := hrel
          have HX := Lib.hid (And.intro hj (And.intro hrow hbw))
          clear hj
          by_cases hlt : j < N
          · have hltI : (j : Int) < (N : Int) := by omega
            have hjw : IntKind.i64.wrap ((j : Int) + 1) = (j : Int) + 1 := IntWalk.i64_in _ (by omega)
            obtain ⟨y, hyj⟩ : ∃ y, (List.replicate j (255 : UInt8) ++ List.replicate (N - j) 0)[j]? = some y := ⟨_, List.getElem?_eq_getElem (by simp; omega)⟩
            have hy0 := hrow.cell hyj
            have hfz := hrow.frozen j
            have HSTEP := Lib.hid (show RowB 5 (wr.setCell ⟨w1.heap.size, j, none⟩ (.int .u8 255)) w1.heap.size (List.replicate (j + 1) 255 ++ List.replicate (N - (j + 1)) 0) ∧ Below w1.heap.size w1 (wr.setCell ⟨w1.heap.size, j, none⟩ (.int .u8 255)) from by
              have h1 := hrow.set j 255
              rw [rep_set hlt] at h1
              exact ⟨h1, hbw.setCell (p := ⟨w1.heap.size, j, none⟩) (Nat.le_refl _) _⟩)
            clear hrow hbw hyj
            generalize w1.heap.size = g at *
            go_wp2_with fail
            go_roundg (N - (j + 1))
            case measure => have := HX.out.1; omega
            case rel =>
              obtain ⟨e1, e2⟩ := HSTEP.out
              exact ⟨j + 1, by have := HX.out.1; omega, by go_num, e1, e2⟩
          · obtain rfl : j = N := by have := HX.out.1; omega
            have hge : ¬ (j : Int) < (j : Int) := by omega
            rw [Nat.sub_self, List.replicate_zero, List.append_nil] at hrow
            have HAJ := Lib.hid (HAT.out wr hbw)
            have HRW := Lib.hid hrow
            clear hrow hbw
            go_wp2_with fail
            refine HAJ.out.mono ?_
            rintro e w2 ⟨rfl, hd2⟩
            have hb2 := below_then HX.out.2.2 HX.out.2.2.size (hd2.below _)
            have HDJ := Lib.hid (HD.out w2 w1.heap.size hb2 (HRW.out.heap (by rw [hd2.heap])) (Nat.le_refl _))
            have H2 := Lib.hid hb2
            clear hd2 hb2
            go_wp2_with fail
            refine HDJ.out.mono ?_
            rintro e w5 ⟨rfl, hp5, ht5⟩
            have H5 := Lib.hid (And.intro hp5 ht5)
            clear hp5 ht5
            go_wp2_with fail
            go_ret
            rw [HR.out.1]
            exact ⟨rfl, H5.out.1, (Tch.of_below H2.out).then H5.out.2 (fun _ _ h => h)⟩
    · rw [decide_eq_false ht] at HT
      rw [if_pos ht] at hdef
      have HT := Lib.hid HT
      have HH := Lib.hid h
      clear c0 c1 c2 c3 c4 c5 c6 c7 c9 h ht
      go_enter Try.func61, Try.ntmps61
      go_wp2_with fail
      refine HT.out.mono ?_
      rintro e w1 ⟨rfl, rfl⟩
      go_wp2_with fail
      go_ret
      rw [hdef]
      exact ⟨rfl, ⟨L, HH.out⟩, Tch.refl _ _⟩
end Go.Proofs.Ytlcdabmclcfagaa

/- Layer 3: the document's Power: contract. -/
namespace Go.Proofs.Ytlcdabmclcfagaa
open Go.RowKit

def RPowerEnd (w : World) (c : Chp) (e : Ending) (w' : World) : Prop :=
  ∃ g, e = .returned (.pointer (some ⟨g, 0, none⟩)) ∧ RC w' (fsh w w') g (powerS c) ∧ Below w.heap.size w w'
theorem rpower_mk {w wf : World} {c : Chp} (ok : ChOk c) {g : Nat} {v2 v3 : Value} {b2 b3 : Nat} (hg : w.heap.size ≤ g) (h2 : OwnB 5 wf b2 v2 c.bytes) (hb2 : g < b2) (h3 : OwnBo wf b3 v3 c.bad) (hb3 : g < b3) (hne : ∀ k, v2.ownBlock = some k → k < b3)
    (hb : Blk wf g 56 #[.int .i64 (c.B : Int), .int .i64 (c.P : Int), .int .i64 (c.S : Int), .int .i64 (c.Sp : Int), v2, v3, .slice none 0 0, .int .i64 0, .bool false, .int .i64 0]) : RC wf (fsh w wf) g (powerS c) := by
  obtain ⟨kd, td, rfl, hkd, hbd, hld⟩ := h3
  have hlen := ok.len
  have hn := ok.n
  rcases h2 with ⟨_, h0⟩ | ⟨kb, full, rfl, hkb, hrow, htk, hml⟩
  · rw [h0] at hlen
    have := ok.b1
    have h8 : 8 * 512 ≤ c.B * c.N := Nat.mul_le_mul ok.b1 hn.1
    simp at hlen
    omega
  · have hfl := OwnB.len (g := kb) htk
    have hfd : c.bytes ++ full.drop c.bytes.length = full := by
      have h1 := List.take_append_drop c.bytes.length full
      rwa [htk] at h1
    have hfl2 : c.bytes.length + (full.drop c.bytes.length).length = full.length := by
      rw [List.length_drop]
      omega
    have hkn : kb < b3 := hne kb rfl
    have hbl := ok.bads
    refine ⟨⟨kb, kd, c.B + td.length, 0, full.drop c.bytes.length, td, none⟩, ok.power, ?_, ?_, hbd, HitsP.nil _ _ _, ?_, ⟨rfl, ?_⟩, ⟨Nat.le_refl _, Nat.zero_le _⟩, ⟨?_, ?_, ?_⟩, ⟨⟨hg, hb.lt⟩, ⟨?_, hrow.lt⟩, ⟨?_, hbd.lt⟩⟩, fun k hk => hk.2⟩
    · unfold refCells
      show Blk wf g _ #[_, _, _, _, .slice (some ⟨kb, 0, none⟩) (c.B * c.N) (c.B * c.N + (full.drop c.bytes.length).length), .slice (some ⟨kd, 0, none⟩) c.B (c.B + td.length), .slice none 0 0, _, _, _]
      rw [← hlen, hfl2]
      rw [hbl] at hb
      exact hb
    · show RowB 5 wf kb (c.bytes ++ full.drop c.bytes.length)
      rw [hfd]
      exact hrow
    · show c.B * c.N + (full.drop c.bytes.length).length ≤ maxLen
      rw [← hlen, hfl2]
      exact hml
    · show c.B + td.length ≤ maxLen
      rw [← hbl]
      exact hld
    · show g ≠ kb
      omega
    · show g ≠ kd
      omega
    · show kb ≠ kd
      omega
    · show w.heap.size ≤ kb
      omega
    · show w.heap.size ≤ kd
      omega
theorem wp_appV {P : Program} (w : World) {o : Oper} {a' : Act} {K : Act → World → Prop} {Q : Exit → Act → World → Prop} (s x : Operand) (t : TypeId)
    (hop : o.op = .call { callee := .builtin .append, args := #[s, x], argTypes := #[t, t] })
    (base : Nat) (e : TypeId) (i : TypeInfo) (z : Value) (size bytes : Nat) (ht : P.underlying t = some (.slice e)) (hi : P.info? e = some i) (hz : i.zero = some z)
    (hsize : i.size = size) (hby : i.bytes = bytes) (hzs : z.cells.size = size) (hsz : 0 < size)
    (v : Value) (n : Nat) (xs : List Value) (hs : a'.eval s = v) (hown : w.ownsRow base e size v n xs)
    (ad : Addr) (m c : Nat) (news : List Value) (hx : a'.eval x = .slice (some ad) m c) (hl : news.length = m * size) (hnews : ∀ j u, news[j]? = some u → w.cell? (ad.add j) = some u) (h1 : ∀ u ∈ news, u.oneCell' = true)
    (h63 : n + m ≤ maxLen) (hbytes : ((n + m) + (n + m) / 4 + 192) * bytes ≤ 281474976710656) (hbase : base ≤ w.heap.size)
    (h : ∀ v' w', w'.ownsRow base e size v' (n + m) (xs ++ news) → w.grownBy w' v.ownBlock → K (a'.put o.dst v') w') : Oper.wp P o a' w K Q := by
  obtain ⟨v', w', hrun, h2, h3, _⟩ := run_appV (P := P) w base t o.type e i z size bytes ht hi hz hsize hby hzs hsz v n xs hown ad m c news hl hnews h1 h63 hbytes hbase
  unfold Oper.wp execOp
  simp only [hop, resolve, invoke, builtin, Sem.run_bind, Sem.run_pure, Result.andThen_ok, List.map_toArray, List.map_cons, List.map_nil, hs, hx, hrun]
  exact h v' w' h2 h3
set_option maxRecDepth 100000 in
set_option maxHeartbeats 2000000 in
theorem rpower_any {w : World} {F : Nat → Prop} {r : Nat} {L : RLay} {c : Chp} (h : RCx w F r L c) :
    Calls Try.prog 63 #[.pointer (some ⟨r, 0, none⟩)] w (RPowerEnd w c) := by
  obtain ⟨c0, c1, c2, c3, c4, c5, c6, c7, c8, c9⟩ := h.cells
  have hrl : r < w.heap.size := h.lt _ h.i1.1
  obtain ⟨ii, iz, hii, hiz, hi1, hi2, hi3⟩ := bool_info'
  obtain ⟨w1, hw1⟩ : ∃ w1, w1 = w.alloc (.cells #[.int .i64 (c.B : Int), .int .i64 (c.P : Int), .int .i64 (c.S : Int), .int .i64 (c.Sp : Int), .slice none 0 0, .slice none 0 0, .slice none 0 0, .int .i64 0, .bool false, .int .i64 0] 56) := ⟨_, rfl⟩
  have hB1 := Blk.new w 56 #[.int .i64 (c.B : Int), .int .i64 (c.P : Int), .int .i64 (c.S : Int), .int .i64 (c.Sp : Int), .slice none 0 0, .slice none 0 0, .slice none 0 0, .int .i64 0, .bool false, .int .i64 0]
  have hb1 := (Below.refl w.heap.size w).alloc (Nat.le_refl _) (.cells #[.int .i64 (c.B : Int), .int .i64 (c.P : Int), .int .i64 (c.S : Int), .int .i64 (c.Sp : Int), .slice none 0 0, .slice none 0 0, .slice none 0 0, .int .i64 0, .bool false, .int .i64 0] 56)
  rw [← hw1] at hB1 hb1
  have HC := Lib.hid (show ∀ w', Below w.heap.size w w' → w'.cell? ⟨r, 4, none⟩ = some (.slice (some ⟨L.kb, 0, none⟩) (c.B * c.N) (c.B * c.N + L.tb.length)) ∧ w'.cell? ⟨r, 5, none⟩ = some (.slice (some ⟨L.kd, 0, none⟩) c.B L.cd) from fun w' hb' => ⟨(h.below hb').cells.2.2.2.2.1, (h.below hb').cells.2.2.2.2.2.1⟩)
  have hlen := h.ok.len
  have hn3 := h.ok.n.2.2
  have HRV := Lib.hid (show ∀ w', Below w.heap.size w w' → RV w' (some ⟨L.kb, 0, none⟩) (bv c.bytes) from fun w' hb' => by
    have h1 := (h.below hb').kb.rv.take c.bytes.length
    rwa [← bv_take, List.take_left] at h1)
  have HRB := Lib.hid (show ∀ w', Below w.heap.size w w' → ∀ j u, (c.bad.map Value.bool)[j]? = some u → w'.cell? ((⟨L.kd, 0, none⟩ : Addr).add j) = some u from fun w' hb' j u hu => by
    have hj := (List.getElem?_eq_some_iff.1 hu).1
    obtain ⟨ad', hA, hc⟩ := ((show RV w (some ⟨L.kd, 0, none⟩) (c.bad.map Value.bool) from fun _ => ⟨_, rfl, fun j u hu => by
      rw [add_lit0, h.kd.cell j]
      have hj := (List.getElem?_eq_some_iff.1 hu).1
      simp only [List.getElem?_toArray]
      rw [List.getElem?_append_left hj]
      exact hu⟩).below hb') (by omega)
    injection hA with hA
    subst hA
    exact hc j u hu)
  have H := Lib.hid (And.intro h.ok (And.intro hlen (And.intro hB1 hb1)))
  have hbad := h.ok.bads
  have hB0 := h.ok.b1
  have hB64 := h.ok.b2
  have HBD := Lib.hid hbad
  clear h c4 c5 c6 c7 c8 c9 hB1 hb1 hbad
  go_enter Try.func63, Try.ntmps63
  go_wp2_with fail
  rw [← hw1]
  clear hw1
  generalize hM : c.B * c.N = M at *
  generalize hcp : M + L.tb.length = cap at *
  have HMM := Lib.hid (And.intro hlen hM)
  clear hlen hM hcp
  refine wp_region_G (fun w' : World => w'.cell? ⟨w.heap.size, 4, none⟩ = some (.slice none 0 0) ∧ w'.cell? ⟨r, 4, none⟩ = some (.slice (some ⟨L.kb, 0, none⟩) M cap)) 12 13 #[false, false, false, false, false, false, false, false, false, false, false, false, false] (by kernel_rfl) rfl (by kernel_rfl) ?_
  have hS0 : (fun w' : World => w'.cell? ⟨w.heap.size, 4, none⟩ = some (.slice none 0 0) ∧ w'.cell? ⟨r, 4, none⟩ = some (.slice (some ⟨L.kb, 0, none⟩) M cap)) w1.drew := ⟨H.out.2.2.1.cell 4, (HC.out _ (H.out.2.2.2.drew)).1⟩
  dsimp only at hS0
  have hbd := H.out.2.2.2.drew
  have hBd : Blk w1.drew w.heap.size 56 _ := H.out.2.2.1
  generalize w1.drew = w2 at *
  have H2 := Lib.hid (And.intro hBd hbd)
  clear hbd hBd
  refine wpAnyG_takeL (i := 0) (v := ?v1) (fuel := 12) (listed' := #[true, false, false, false, false, false, false, false, false, false, false, false, false]) rfl (by kernel_rfl) (fun _ _ _ h => h) (.inl ⟨by rfl, ?hy1⟩) (by assumption) (by kernel_rfl) ?rest1
  case hy1 => (intro w' hSw; (try dsimp only at hSw); go_simp; try with_reducible rfl)
  try simp only [Act.put, List.setIfInBounds_toArray, List.set_cons_zero, List.set_cons_succ]
  refine wpAnyG_takeL (i := 1) (v := ?v2) (fuel := 11) (listed' := #[true, true, false, false, false, false, false, false, false, false, false, false, false]) rfl (by kernel_rfl) (fun _ _ _ h => h) (.inl ⟨by rfl, ?hy2⟩) (by assumption) (by kernel_rfl) ?rest2
  case hy2 => (intro w' hSw; (try dsimp only at hSw); go_simp; try with_reducible rfl)
  try simp only [Act.put, List.setIfInBounds_toArray, List.set_cons_zero, List.set_cons_succ]
  refine wpAnyG_takeL (i := 2) (v := ?v3) (fuel := 10) (listed' := #[true, true, true, false, false, false, false, false, false, false, false, false, false]) rfl (by kernel_rfl) (fun _ _ _ h => h) (.inl ⟨by rfl, ?hy3⟩) (by assumption) (by kernel_rfl) ?rest3
  case hy3 => (intro w' hSw; (try dsimp only at hSw); go_simp; try with_reducible rfl)
  try simp only [Act.put, List.setIfInBounds_toArray, List.set_cons_zero, List.set_cons_succ]
  refine wpAnyG_takeL (i := 3) (v := ?v4) (fuel := 9) (listed' := #[true, true, true, true, false, false, false, false, false, false, false, false, false]) rfl (by kernel_rfl) (fun _ _ _ h => h) (.inl ⟨by rfl, ?hy4⟩) (by assumption) (by kernel_rfl) ?rest4
  case hy4 => (intro w' hSw; (try dsimp only at hSw); go_simp; try with_reducible rfl)
  try simp only [Act.put, List.setIfInBounds_toArray, List.set_cons_zero, List.set_cons_succ]
  refine wpAnyG_takeL (i := 4) (v := ?v5) (fuel := 8) (listed' := #[true, true, true, true, true, false, false, false, false, false, false, false, false]) rfl (by kernel_rfl) (fun _ _ _ h => h) (.inl ⟨by rfl, ?hy5⟩) (by assumption) (by kernel_rfl) ?rest5
  case hy5 => (intro w' hSw; (try dsimp only at hSw); go_simp; try with_reducible rfl)
  try simp only [Act.put, List.setIfInBounds_toArray, List.set_cons_zero, List.set_cons_succ]
  refine wpAnyG_takeL (i := 5) (v := ?v6) (fuel := 7) (listed' := #[true, true, true, true, true, true, false, false, false, false, false, false, false]) rfl (by kernel_rfl) (fun _ _ _ h => h) (.inl ⟨by rfl, ?hy6⟩) (by assumption) (by kernel_rfl) ?rest6
  case hy6 => (intro w' hSw; (try dsimp only at hSw); go_simp; try with_reducible rfl)
  try simp only [Act.put, List.setIfInBounds_toArray, List.set_cons_zero, List.set_cons_succ]
  refine wpAnyG_takeL (i := 6) (v := ?v7) (fuel := 6) (listed' := #[true, true, true, true, true, true, true, false, false, false, false, false, false]) rfl (by kernel_rfl) (fun _ _ _ h => h) (.inl ⟨by rfl, ?hy7⟩) (by assumption) (by kernel_rfl) ?rest7
  case hy7 => (intro w' hSw; (try dsimp only at hSw); go_simp; try with_reducible rfl)
  try simp only [Act.put, List.setIfInBounds_toArray, List.set_cons_zero, List.set_cons_succ]
  refine wpAnyG_takeL (i := 7) (v := ?v8) (fuel := 5) (listed' := #[true, true, true, true, true, true, true, true, false, false, false, false, false]) rfl (by kernel_rfl) (fun _ _ _ h => h) (.inl ⟨by rfl, ?hy8⟩) (by assumption) (by kernel_rfl) ?rest8
  case hy8 => (intro w' hSw; (try dsimp only at hSw); go_simp; try with_reducible rfl)
  try simp only [Act.put, List.setIfInBounds_toArray, List.set_cons_zero, List.set_cons_succ]
  refine wpAnyG_takeL (i := 8) (v := ?v9) (fuel := 4) (listed' := #[true, true, true, true, true, true, true, true, true, false, false, false, false]) rfl (by kernel_rfl) (fun _ _ _ h => h) (.inl ⟨by rfl, ?hy9⟩) (by assumption) (by kernel_rfl) ?rest9
  case hy9 => (intro w' hSw; (try dsimp only at hSw); go_simp; try with_reducible rfl)
  try simp only [Act.put, List.setIfInBounds_toArray, List.set_cons_zero, List.set_cons_succ]
  refine wpAnyG_oneL (i := 9) (fuel := 3) (listed' := #[true, true, true, true, true, true, true, true, true, true, false, false, false]) rfl (by kernel_rfl) (by kernel_rfl) (by rfl) (fun K hK0 => ?_)
  have hK := Lib.hid hK0
  clear hK0
  refine wp_appB w2 (.tmp 14) (.tmp 18) 22 rfl w2.heap.size 5 Try.underlying22 u8info (.slice none 0 0) [] (by rfl) (OwnB.nil _ _ _) (some ⟨L.kb, 0, none⟩) M cap c.bytes (by rfl) HMM.out.1 (HRV.out _ H2.out.2) (by rw [HMM.out.1]; show 0 + M ≤ _; omega) (Nat.le_refl _) ?_
  intro v3 w3 ho3 hg3 _
  obtain ⟨A3, cp3, hv3, _, _, _, hob3⟩ := ho3.slice
  try rw [List.nil_append] at hv3
  rw [HMM.out.1] at hv3
  subst hv3
  have hb3 : Below w2.heap.size w2 w3 := (Below.refl _ _).grown hg3 (Nat.le_refl _) (fun k hk => by cases hk)
  have hbw3 := below_then H2.out.2 H2.out.2.size hb3
  have hB3 := H2.out.1.below hb3 H2.out.1.lt
  have H3 := Lib.hid (And.intro ho3 (And.intro hbw3 (And.intro hB3 hb3)))
  have q4 := hB3.cell 4
  have f4 := hB3.frozen 4
  simp at q4
  have hS3 : (fun w' : World => w'.cell? ⟨w.heap.size, 4, none⟩ = some (.slice none 0 0) ∧ w'.cell? ⟨r, 4, none⟩ = some (.slice (some ⟨L.kb, 0, none⟩) M cap)) w3 := ⟨q4, (HC.out _ hbw3).1⟩
  clear hg3 hb3 hbw3 hB3 ho3 hob3 hS0
  refine hK.out _ _ (.inl (hS3)) ?_
  clear hK K
  try simp only [Act.put, List.setIfInBounds_toArray, List.set_cons_zero, List.set_cons_succ]
  have hS0 := hS3
  dsimp only at hS0
  refine wpAnyG_takeL (i := 10) (v := ?v10) (fuel := 2) (listed' := #[true, true, true, true, true, true, true, true, true, true, true, false, false]) rfl (by kernel_rfl) (fun _ _ _ h => h) (.inl ⟨by rfl, ?hy10⟩) (by assumption) (by kernel_rfl) ?rest10
  case hy10 => (intro w' hSw; (try dsimp only at hSw); go_simp; try with_reducible rfl)
  try simp only [Act.put, List.setIfInBounds_toArray, List.set_cons_zero, List.set_cons_succ]
  refine wpAnyG_takeL (i := 11) (v := ?v11) (fuel := 1) (listed' := #[true, true, true, true, true, true, true, true, true, true, true, true, false]) rfl (by kernel_rfl) (fun _ _ _ h => h) (.inl ⟨by rfl, ?hy11⟩) (by assumption) (by kernel_rfl) ?rest11
  case hy11 => (intro w' hSw; (try dsimp only at hSw); go_simp; try with_reducible rfl)
  try simp only [Act.put, List.setIfInBounds_toArray, List.set_cons_zero, List.set_cons_succ]
  refine wpAnyG_oneL (i := 12) (fuel := 0) (listed' := #[true, true, true, true, true, true, true, true, true, true, true, true, true]) rfl (by kernel_rfl) (by kernel_rfl) (by rfl) (fun K hK0 => ?_)
  have hK := Lib.hid hK0
  clear hK0
  go_simp
  refine hK.out _ _ (.inr (by decide)) ?_
  clear hK K
  refine wpAnyG_done (by kernel_rfl) ?_ _
  clear hS3 hS0 q4 f4
  have ho4 : OwnB 5 (w3.setCell ⟨w.heap.size, 4, none⟩ (.slice A3 M cp3)) w2.heap.size (.slice A3 M cp3) c.bytes := (show OwnB 5 w3 w2.heap.size (.slice A3 M cp3) c.bytes from H3.out.1).setOther H2.out.1.lt _
  have hB4 := H3.out.2.2.1.set_ 4 (.slice A3 M cp3)
  have hb4 : Below w.heap.size w (w3.setCell ⟨w.heap.size, 4, none⟩ (.slice A3 M cp3)) := H3.out.2.1.setCell (p := ⟨w.heap.size, 4, none⟩) (Nat.le_refl _) _
  have hsz4 : (w3.setCell ⟨w.heap.size, 4, none⟩ (.slice A3 M cp3)).heap.size = w3.heap.size := by simp [World.setCell]
  have hg2 : w.heap.size < w2.heap.size := H2.out.1.lt
  have hs23 := H3.out.2.2.2.size
  generalize w3.setCell ⟨w.heap.size, 4, none⟩ (.slice A3 M cp3) = w4 at *
  have H4 := Lib.hid (And.intro ho4 (And.intro hB4 (And.intro hb4 (And.intro hsz4 (And.intro hg2 hs23)))))
  clear ho4 hB4 hb4 hsz4 hg2 hs23
  go_wp2_with fail
  refine wp_region_G (fun w' : World => w'.cell? ⟨w.heap.size, 5, none⟩ = some (.slice none 0 0) ∧ w'.cell? ⟨r, 5, none⟩ = some (.slice (some ⟨L.kd, 0, none⟩) c.B L.cd)) 12 13 #[false, false, false, false, false, false, false, false, false, false, false, false, false] (by kernel_rfl) rfl (by kernel_rfl) ?_
  have hS0 : (fun w' : World => w'.cell? ⟨w.heap.size, 5, none⟩ = some (.slice none 0 0) ∧ w'.cell? ⟨r, 5, none⟩ = some (.slice (some ⟨L.kd, 0, none⟩) c.B L.cd)) w4.drew := ⟨by have := H4.out.2.1.cell 5; simpa using this, (HC.out _ (H4.out.2.2.1.drew)).2⟩
  dsimp only at hS0
  have hbd := H4.out.2.2.1.drew
  have hbd4 := (Below.refl w4.heap.size w4).drew
  have hsd : w4.drew.heap.size = w4.heap.size := rfl
  generalize w4.drew = w5 at *
  have H5 := Lib.hid (And.intro hbd (And.intro hbd4 hsd))
  clear hbd hbd4 hsd
  refine wpAnyG_takeL (i := 0) (v := ?v12) (fuel := 12) (listed' := #[true, false, false, false, false, false, false, false, false, false, false, false, false]) rfl (by kernel_rfl) (fun _ _ _ h => h) (.inl ⟨by rfl, ?hy12⟩) (by assumption) (by kernel_rfl) ?rest12
  case hy12 => (intro w' hSw; (try dsimp only at hSw); go_simp; try with_reducible rfl)
  try simp only [Act.put, List.setIfInBounds_toArray, List.set_cons_zero, List.set_cons_succ]
  refine wpAnyG_takeL (i := 1) (v := ?v13) (fuel := 11) (listed' := #[true, true, false, false, false, false, false, false, false, false, false, false, false]) rfl (by kernel_rfl) (fun _ _ _ h => h) (.inl ⟨by rfl, ?hy13⟩) (by assumption) (by kernel_rfl) ?rest13
  case hy13 => (intro w' hSw; (try dsimp only at hSw); go_simp; try with_reducible rfl)
  try simp only [Act.put, List.setIfInBounds_toArray, List.set_cons_zero, List.set_cons_succ]
  refine wpAnyG_takeL (i := 2) (v := ?v14) (fuel := 10) (listed' := #[true, true, true, false, false, false, false, false, false, false, false, false, false]) rfl (by kernel_rfl) (fun _ _ _ h => h) (.inl ⟨by rfl, ?hy14⟩) (by assumption) (by kernel_rfl) ?rest14
  case hy14 => (intro w' hSw; (try dsimp only at hSw); go_simp; try with_reducible rfl)
  try simp only [Act.put, List.setIfInBounds_toArray, List.set_cons_zero, List.set_cons_succ]
  refine wpAnyG_takeL (i := 3) (v := ?v15) (fuel := 9) (listed' := #[true, true, true, true, false, false, false, false, false, false, false, false, false]) rfl (by kernel_rfl) (fun _ _ _ h => h) (.inl ⟨by rfl, ?hy15⟩) (by assumption) (by kernel_rfl) ?rest15
  case hy15 => (intro w' hSw; (try dsimp only at hSw); go_simp; try with_reducible rfl)
  try simp only [Act.put, List.setIfInBounds_toArray, List.set_cons_zero, List.set_cons_succ]
  refine wpAnyG_takeL (i := 4) (v := ?v16) (fuel := 8) (listed' := #[true, true, true, true, true, false, false, false, false, false, false, false, false]) rfl (by kernel_rfl) (fun _ _ _ h => h) (.inl ⟨by rfl, ?hy16⟩) (by assumption) (by kernel_rfl) ?rest16
  case hy16 => (intro w' hSw; (try dsimp only at hSw); go_simp; try with_reducible rfl)
  try simp only [Act.put, List.setIfInBounds_toArray, List.set_cons_zero, List.set_cons_succ]
  refine wpAnyG_takeL (i := 5) (v := ?v17) (fuel := 7) (listed' := #[true, true, true, true, true, true, false, false, false, false, false, false, false]) rfl (by kernel_rfl) (fun _ _ _ h => h) (.inl ⟨by rfl, ?hy17⟩) (by assumption) (by kernel_rfl) ?rest17
  case hy17 => (intro w' hSw; (try dsimp only at hSw); go_simp; try with_reducible rfl)
  try simp only [Act.put, List.setIfInBounds_toArray, List.set_cons_zero, List.set_cons_succ]
  refine wpAnyG_takeL (i := 6) (v := ?v18) (fuel := 6) (listed' := #[true, true, true, true, true, true, true, false, false, false, false, false, false]) rfl (by kernel_rfl) (fun _ _ _ h => h) (.inl ⟨by rfl, ?hy18⟩) (by assumption) (by kernel_rfl) ?rest18
  case hy18 => (intro w' hSw; (try dsimp only at hSw); go_simp; try with_reducible rfl)
  try simp only [Act.put, List.setIfInBounds_toArray, List.set_cons_zero, List.set_cons_succ]
  refine wpAnyG_takeL (i := 7) (v := ?v19) (fuel := 5) (listed' := #[true, true, true, true, true, true, true, true, false, false, false, false, false]) rfl (by kernel_rfl) (fun _ _ _ h => h) (.inl ⟨by rfl, ?hy19⟩) (by assumption) (by kernel_rfl) ?rest19
  case hy19 => (intro w' hSw; (try dsimp only at hSw); go_simp; try with_reducible rfl)
  try simp only [Act.put, List.setIfInBounds_toArray, List.set_cons_zero, List.set_cons_succ]
  refine wpAnyG_takeL (i := 8) (v := ?v20) (fuel := 4) (listed' := #[true, true, true, true, true, true, true, true, true, false, false, false, false]) rfl (by kernel_rfl) (fun _ _ _ h => h) (.inl ⟨by rfl, ?hy20⟩) (by assumption) (by kernel_rfl) ?rest20
  case hy20 => (intro w' hSw; (try dsimp only at hSw); go_simp; try with_reducible rfl)
  try simp only [Act.put, List.setIfInBounds_toArray, List.set_cons_zero, List.set_cons_succ]
  refine wpAnyG_oneL (i := 9) (fuel := 3) (listed' := #[true, true, true, true, true, true, true, true, true, true, false, false, false]) rfl (by kernel_rfl) (by kernel_rfl) (by rfl) (fun K hK0 => ?_)
  have hK := Lib.hid hK0
  clear hK0
  refine wp_appV w5 (.tmp 26) (.tmp 30) 54 rfl w5.heap.size 4 ii iz 1 1 Try.underlying54 hii hiz hi1 hi2 hi3 (by decide) (.slice none 0 0) 0 [] (by rfl) ⟨rfl, .inl ⟨rfl, rfl⟩⟩ ⟨L.kd, 0, none⟩ c.B L.cd (c.bad.map Value.bool) (by rfl) (by rw [List.length_map, HBD.out, Nat.mul_one]) (HRB.out _ H5.out.1) (bools_one _) (by unfold maxLen; omega) (by omega) (Nat.le_refl _) ?_
  intro v6 w6 hown hg6
  rw [Nat.zero_add, List.nil_append] at hown
  have ho6 := OwnBo.of_row hown (by omega)
  have hb6 : Below w5.heap.size w5 w6 := (Below.refl _ _).grown hg6 (Nat.le_refl _) (fun k hk => by cases hk)
  have hB6 := (H4.out.2.1.below H5.out.2.1 H4.out.2.1.lt).below hb6 (H4.out.2.1.below H5.out.2.1 H4.out.2.1.lt).lt
  have ho46 := (H4.out.1.below H5.out.2.1).below hb6
  have hb06 := below_then H5.out.1 H5.out.1.size hb6
  have q5 := hB6.cell 5
  have f5 := hB6.frozen 5
  simp at q5
  have hS3 : (fun w' : World => w'.cell? ⟨w.heap.size, 5, none⟩ = some (.slice none 0 0) ∧ w'.cell? ⟨r, 5, none⟩ = some (.slice (some ⟨L.kd, 0, none⟩) c.B L.cd)) w6 := ⟨q5, (HC.out _ hb06).2⟩
  have hv6 : ∃ A6 n6 cp6, v6 = .slice A6 n6 cp6 := by
    obtain ⟨g6, td, h, _⟩ := ho6
    exact ⟨_, _, _, h⟩
  obtain ⟨A6, n6, cp6, rfl⟩ := hv6
  have H6 := Lib.hid (And.intro ho6 (And.intro hB6 (And.intro ho46 hb06)))
  clear ho6 hB6 ho46 hb06 hown hg6 hb6
  clear hS0
  refine hK.out _ _ (.inl (hS3)) ?_
  clear hK K
  try simp only [Act.put, List.setIfInBounds_toArray, List.set_cons_zero, List.set_cons_succ]
  have hS0 := hS3
  dsimp only at hS0
  refine wpAnyG_takeL (i := 10) (v := ?v21) (fuel := 2) (listed' := #[true, true, true, true, true, true, true, true, true, true, true, false, false]) rfl (by kernel_rfl) (fun _ _ _ h => h) (.inl ⟨by rfl, ?hy21⟩) (by assumption) (by kernel_rfl) ?rest21
  case hy21 => (intro w' hSw; (try dsimp only at hSw); go_simp; try with_reducible rfl)
  try simp only [Act.put, List.setIfInBounds_toArray, List.set_cons_zero, List.set_cons_succ]
  refine wpAnyG_takeL (i := 11) (v := ?v22) (fuel := 1) (listed' := #[true, true, true, true, true, true, true, true, true, true, true, true, false]) rfl (by kernel_rfl) (fun _ _ _ h => h) (.inl ⟨by rfl, ?hy22⟩) (by assumption) (by kernel_rfl) ?rest22
  case hy22 => (intro w' hSw; (try dsimp only at hSw); go_simp; try with_reducible rfl)
  try simp only [Act.put, List.setIfInBounds_toArray, List.set_cons_zero, List.set_cons_succ]
  refine wpAnyG_oneL (i := 12) (fuel := 0) (listed' := #[true, true, true, true, true, true, true, true, true, true, true, true, true]) rfl (by kernel_rfl) (by kernel_rfl) (by rfl) (fun K hK0 => ?_)
  have hK := Lib.hid hK0
  clear hK0
  go_simp
  refine hK.out _ _ (.inr (by decide)) ?_
  clear hK K
  refine wpAnyG_done (by kernel_rfl) ?_ _
  clear hS3 hS0 q5 f5
  have hB7 := H6.out.2.1.set_ 5 (.slice A6 n6 cp6)
  have ho7 : OwnB 5 (w6.setCell ⟨w.heap.size, 5, none⟩ (.slice A6 n6 cp6)) w2.heap.size (.slice A3 M cp3) c.bytes := H6.out.2.2.1.setOther H2.out.1.lt _
  have hbo7 : OwnBo (w6.setCell ⟨w.heap.size, 5, none⟩ (.slice A6 n6 cp6)) w5.heap.size (.slice A6 n6 cp6) c.bad := by
    obtain ⟨g6, td, e1, e2, e3, e4⟩ := H6.out.1
    have := H4.out.2.2.2.2.1
    have := H4.out.2.2.2.2.2
    have := H4.out.2.2.2.1
    have := H5.out.2.2
    exact ⟨g6, td, e1, e2, e3.far (p := ⟨w.heap.size, 5, none⟩) (by show g6 ≠ w.heap.size; omega) _, e4⟩
  have hb7 : Below w.heap.size w (w6.setCell ⟨w.heap.size, 5, none⟩ (.slice A6 n6 cp6)) := H6.out.2.2.2.setCell (p := ⟨w.heap.size, 5, none⟩) (Nat.le_refl _) _
  have hRC := rpower_mk (w := w) H.out.1 (Nat.le_refl _) ho7 H2.out.1.lt hbo7 (by have := H4.out.2.2.2.2.1; have := H4.out.2.2.2.2.2; have := H4.out.2.2.2.1; have := H5.out.2.2; omega) (fun k hk => by have h1 := (H4.out.1.blk hk).2; rw [H5.out.2.2]; exact h1) (by simpa using hB7)
  have H7 := Lib.hid (And.intro hRC hb7)
  clear hB7 ho7 hbo7 hRC hb7
  go_wp2_with fail
  go_ret
  exact ⟨_, rfl, H7.out.1, H7.out.2⟩
end Go.Proofs.Ytlcdabmclcfagaa
