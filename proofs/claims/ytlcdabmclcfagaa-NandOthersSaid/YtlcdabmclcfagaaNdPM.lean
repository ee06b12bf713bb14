import Derived.Test.YtlcdabmclcfagaaNdDM
import Derived.Test.YtlcdabmclcfagaaMSeal
import Derived.Test.YtlcdabmclcfagaaClsM
set_option linter.unusedVariables false
set_option linter.unusedSimpArgs false
/- Layer 3: Program, Erase: contracts. -/
namespace Go.Proofs.Ytlcdabmclcfagaa
open Go.RowKit

theorem run_enter {P : Program} {f : FuncId} {fn : Func} {c : Code} (hf : P.funcs[f]? = some fn) (hname : (fn.name == "runtime.NumGoroutine") = false) (hb : fn.body = some c) (args : Array Value) (w : World) :
    (callFunc f args).run P w = .ok (.enter f args) w := by
  have h1 : fn.name ≠ "runtime.NumGoroutine" := by simpa using hname
  simp [callFunc, hf, h1, hb]
theorem enter_P : ∀ args w, (callFunc 39 args).run Try.prog w = .ok (.enter 39 args) w := fun args w => run_enter Try.func39 (by kernel_rfl) rfl args w
theorem enter_E : ∀ args w, (callFunc 44 args).run Try.prog w = .ok (.enter 44 args) w := fun args w => run_enter Try.func44 (by kernel_rfl) rfl args w
theorem erase1_any (w : World) (i : Int) : Calls Try.prog 44 #[.int .i64 i] w fun e w' => e = .returned (.int .u8 255) ∧ w' = w := by
  go_enter Try.func44, Try.ntmps44
  go_wp2_with fail
  go_ret
  exact ⟨rfl, rfl⟩
theorem program1_any (w : World) (g : Nat) (A : Option Addr) (n d : Nat) (xs : List UInt8) (hn : xs.length = n) (hb : w.cell? ⟨g, 0, none⟩ = some (.slice A n d)) (hr : RV w A (bv xs)) (i : Nat) (x : UInt8) (hx : xs[i]? = some x) :
    Calls Try.prog 39 #[.int .i64 (i : Int), .pointer (some ⟨g, 0, none⟩)] w fun e w' => e = .returned (.int .u8 (x.toNat : Int)) ∧ w' = w := by
  have hi := (List.getElem?_eq_some_iff.1 hx).1
  obtain ⟨ad, hA, hc⟩ := hr (by rw [bv_length]; omega)
  have k := hc i (.int .u8 (x.toNat : Int)) (by rw [bv_get, hx]; rfl)
  subst hA
  have hiI : (i : Int) < (n : Int) := by omega
  clear hr hc hx
  go_enter Try.func39, Try.ntmps39
  go_wp2_with fail
  go_ret
  exact ⟨rfl, rfl⟩

theorem PCx.rvDrop {w : World} {F : Nat → Prop} {a : Nat} {L : Lay} {c : Chp} (h : PCx w F a L c) {b off : Nat} (hb : b < c.B) (ho : off ≤ c.N) : RV w (some ⟨L.kr b, off, none⟩) (bv ((c.row b).drop off)) := by
  have h1 := h.rv (b := b) (off := off) (n := c.N - off) hb (by omega)
  rw [← row_seg h.ok hb (by omega)] at h1
  have hl := h.ok.row_len hb
  have e : seg (c.row b) off (c.N - off) = (c.row b).drop off := by
    unfold seg
    exact List.take_of_length_le (by rw [List.length_drop, hl]; exact Nat.le_refl _)
  rwa [e] at h1
theorem blank_n (w : World) (A : Option Addr) (n c : Nat) (xs : List UInt8) (hn : xs.length = n) (hr : RV w A (bv xs)) (hx : n ≤ maxLen) :
    Calls Try.prog 36 #[.slice A n c] w fun e w' => e = .returned (.bool (decide (blk255 xs))) ∧ Drawn w w' := by
  refine (blank_at A n c xs w hn hr hx).mono ?_
  rintro e w' ⟨rfl, rfl⟩
  refine ⟨?_, Drawn.refl _⟩
  congr 2
theorem quiet_drawn {P : Program} {f : FuncId} {args : Array Value} {w : World} {n : Nat} {v : Value} (h : Calls P f args (w.drewN n) fun e w' => e = .returned v ∧ Drawn (w.drewN n) w') : Calls P f args (w.drewN n) fun e w'' => e = .returned v ∧ ∃ m, w'' = w.drewN m :=
  h.mono fun _ _ ⟨he, hd⟩ => ⟨he, (Drawn.mk w n).trans hd⟩
set_option maxRecDepth 100000 in
set_option maxHeartbeats 2000000 in
theorem program_pc {w : World} {F : Nat → Prop} {a : Nat} {L : Lay} {c : Chp} (h : PCx w F a L c) (b p : Int) (A : Option Addr) (n d : Nat) (xs : List UInt8) (hn : xs.length = n) (hr : RV w A (bv xs)) (hoff : ∀ ad, A = some ad → 0 < n → ¬ F ad.block) :
    Calls Try.prog 12 #[.pointer (some ⟨a, 0, none⟩), .int .i64 b, .int .i64 p, .slice A n d] w (DoneEnd w F a (programS c b p xs)) := by
  have hb0 := (Below.refl w.heap.size w).alloc (Nat.le_refl _) (.cells #[.slice A n d] 22)
  have h0 := h.below hb0
  have hB := Blk.new w 22 #[.slice A n d]
  have hr0 := hr.alloc (.cells #[.slice A n d] 22)
  have hnF : ¬ F w.heap.size := fun hf => by have := h.lt _ hf; omega
  generalize hw0 : w.alloc (.cells #[.slice A n d] 22) = w0 at *
  have HA := ask_pc h0 b p
  have hkB := hB.cell 0
  simp at hkB
  have HW := Lib.hid (And.intro hb0 (And.intro h0 (And.intro hB (And.intro hr0 (And.intro hnF (And.intro hn hoff))))))
  obtain ⟨R, hR⟩ : ∃ R, programS c b p xs = R := ⟨_, rfl⟩
  rw [hR]
  have hdef : programS c b p xs = if c.dead then (c, 10) else if ¬ thereS c b p ∨ xs.length ≠ c.S then (c, 2) else if c.bad[b.toNat]? = some true then (c, 9) else if ¬ blk255 ((c.row b.toNat).drop (p.toNat * c.S)) then (c, 8) else doneS c b.toNat (b.toNat * c.N + p.toNat * c.S) xs := rfl
  rw [hR] at hdef
  by_cases hq : askS c b p = 0
  · have hdd : c.dead = false ∧ thereS c b p := by
      unfold askS at hq
      split at hq
      · cases hq
      · split at hq
        · rename_i h1 h2
          exact ⟨by simpa using h1, h2⟩
        · cases hq
    obtain ⟨hdead, hth⟩ := hdd
    rw [if_neg (by rw [hdead]; simp)] at hdef
    have hth' := hth
    unfold thereS at hth'
    obtain ⟨q, rfl⟩ : ∃ q : Nat, b = (q : Int) := ⟨b.toNat, by omega⟩
    obtain ⟨t, rfl⟩ : ∃ t : Nat, p = (t : Int) := ⟨p.toNat, by omega⟩
    simp only [Int.toNat_natCast] at hdef
    rw [hq] at HA
    have HA := Lib.hid HA
    obtain ⟨e1, e2, e3⟩ := h.ok.page_end (b := q) (p := t) (by omega) (by omega)
    obtain ⟨c0, c1, c2, c3, c4, c5, c6, c7, c8, c9⟩ := h0.cells
    by_cases hlen : n = c.S
    · rw [if_neg (by rw [hn]; rintro (h | h); exact h hth; exact h hlen)] at hdef
      have hqB : q < c.B := by omega
      have htP : t < c.P := by omega
      obtain ⟨xb, hxb, kb⟩ := h0.badAt (b := q) hqB
      have y0 := h0.kb q hqB
      have hct := h0.ct q hqB
      have hbB : (q : Int) < (c.B : Int) := by omega
      have hcd := h0.cd
      have hcb := h0.cb
      have t1 : ((n : Int) != (c.S : Int)) = false := by rw [hlen]; simp
      rw [hxb] at hdef
      cases xb with
      | true =>
        rw [if_pos rfl] at hdef
        clear c0 c1 c3 c4 c6 c7 c8 c9 e1 e2 e3 hr hB h0 hr0 hnF hoff hn hth hth' hq hdead hb0 y0 hct hxb hlen
        go_enter Try.func12, Try.ntmps12
        go_wp2_with fail
        refine HA.out.mono ?_
        rintro e w1 ⟨rfl, rfl⟩
        clear hw0
        go_wp2_with fail
        go_quiet (fail)
        go_wp2_with fail
        go_ret
        rw [hdef]
        have hbd := below_drewN HW.out.1 nq
        exact ⟨rfl, ⟨L, h.below hbd⟩, Tch.of_below hbd⟩
      | false =>
        rw [if_neg (by simp)] at hdef
        have hN := h.ok.n
        have hS2 := h.ok.s2
        have hS1 := h.ok.s1
        have hQN : t * c.S < c.N := by omega
        have hmul : ((t : Int) * (c.S : Int)) = ((t * c.S : Nat) : Int) := by simp
        have hw1 : IntKind.i64.wrap ((t : Int) * (c.S : Int)) = ((t * c.S : Nat) : Int) := by rw [hmul]; exact IntWalk.i64_in _ (by omega)
        have hrow := h0.rvDrop (b := q) (off := t * c.S) hqB (by omega)
        have hrl : ((c.row q).drop (t * c.S)).length = c.N - t * c.S := by rw [List.length_drop, h.ok.row_len hqB]
        obtain ⟨T, hT⟩ : ∃ T, c.N + (L.tl q).length = T := ⟨_, rfl⟩
        rw [hT] at y0 hct
        have hTN : c.N ≤ T := by omega
        have HPG := Lib.hid (fun w' (hd : Drawn w0 w') => page_pc (h0.below (hd.below _)) hqB htP)
        have HD := Lib.hid (fun w' (hd : Drawn w0 w') => done_pc (h0.below (hd.below _)) (b := q) (off := t * c.S) (n := c.S) (cap := c.S) hqB e1 (Nat.le_refl _) (by unfold maxLen; omega) xs (by rw [hn, hlen]) 39 #[.pointer (some ⟨w.heap.size, 0, none⟩)] (fun w'' ht i x hx => by
          have hlt0 : w.heap.size < w'.heap.size := by rw [hd.heap]; exact hB.lt
          have hb2 : Blk w'' w.heap.size 22 #[.slice A n d] := (hB.heap (by rw [hd.heap])).heap (ht.block _ hlt0 hnF)
          have k2 := hb2.cell 0
          simp at k2
          exact program1_any w'' w.heap.size A n d xs hn k2 ((hr0.below (hd.below _)).tch ht (fun ad hA h0 => hoff ad hA (by rwa [bv_length, hn] at h0))) i x hx) enter_P)
        obtain ⟨bl, hbl⟩ : ∃ bl, decide (blk255 ((c.row q).drop (t * c.S))) = bl := ⟨_, rfl⟩
        have HBL := Lib.hid (fun (w' : World) (hd : Drawn w0 w') => by
          have h1 := blank_n w' (some ⟨L.kr q, t * c.S, none⟩) (c.N - t * c.S) (T - t * c.S) _ hrl (hrow.below (hd.below _)) (by unfold maxLen at hct ⊢; omega)
          rw [hbl] at h1
          exact h1)
        have hdef2 : R = if bl = true then doneS c q (q * c.N + t * c.S) xs else (c, 8) := by
          rw [hdef]
          by_cases hx : blk255 ((c.row q).drop (t * c.S))
          · rw [if_neg (fun h => h hx), ← hbl, decide_eq_true hx, if_pos rfl]
          · rw [if_pos hx, ← hbl, decide_eq_false hx, if_neg (by simp)]
        have HR := Lib.hid (And.intro hdef2 h)
        clear c0 c1 c3 c6 c7 c8 c9 e1 e2 e3 hr hB h0 hr0 hnF hoff hn hth hth' hq hdead hb0 hxb hdef hdef2 hrow hrl hbl hmul h hlen
        generalize c.S = S at *
        generalize c.N = N at *
        generalize c.B = B at *
        have hwn : (t : Int) * (S : Int) = ((t * S : Nat) : Int) := by simp
        generalize t * S = Q at *
        have g1 : (Q : Int) ≤ (N : Int) := by omega
        have g2 : (0 : Int) ≤ (Q : Int) := by omega
        have g3 : ¬ T = Q := by omega
        go_enter Try.func12, Try.ntmps12
        go_wp2_with fail
        refine HA.out.mono ?_
        rintro e w1 ⟨rfl, rfl⟩
        clear hw0
        go_wp2_with fail
        go_quiet (fail)
        have hd1 : Drawn w1 (w1.drewN nq) := Drawn.mk w1 nq
        replace c2 : (w1.drewN nq).cell? ⟨a, 2, none⟩ = some (.int .i64 (S : Int)) := c2
        replace c4 : (w1.drewN nq).cell? ⟨a, 4, none⟩ = some (.slice (some ⟨L.kb, 0, none⟩) B L.cb) := c4
        replace c5 : (w1.drewN nq).cell? ⟨a, 5, none⟩ = some (.slice (some ⟨L.kd, 0, none⟩) B L.cd) := c5
        replace y0 : (w1.drewN nq).cell? ⟨L.kb, q, none⟩ = some (.slice (some ⟨L.kr q, 0, none⟩) N T) := y0
        replace kb : (w1.drewN nq).cell? ⟨L.kd, q, none⟩ = some (.bool false) := kb
        generalize w1.drewN nq = w2 at *
        have HD1 := Lib.hid hd1
        clear hd1
        go_wp2_with fail
        go_quiet ((go_at_call 36; exact quiet_drawn (HBL.out _ (HD1.out.trans (Drawn.mk w2 _)))))
        have hd3 : Drawn w1 (w2.drewN nq) := HD1.out.trans (Drawn.mk w2 nq)
        generalize w2.drewN nq = w3 at *
        have HD3 := Lib.hid hd3
        clear hd3 c2 c4 c5 y0 kb hkB
        cases bl with
        | false =>
          have hrr : R = (c, 8) := by rw [HR.out.1]; rfl
          go_wp2_with fail
          go_ret
          rw [hrr]
          have hbd := below_then HW.out.1 HW.out.1.size (HD3.out.below _)
          exact ⟨rfl, ⟨L, HR.out.2.below hbd⟩, Tch.of_below hbd⟩
        | true =>
          have hrr : R = doneS c q (q * N + Q) xs := by rw [HR.out.1]; rfl
          have HRR := Lib.hid hrr
          clear hrr
          go_wp2_with fail
          refine (HPG.out w3 HD3.out).mono ?_
          rintro e w4 ⟨rfl, hd4⟩
          have HD4 := Lib.hid (HD3.out.trans hd4)
          clear hd4
          go_wp2_with fail
          refine (HD.out w4 HD4.out).mono ?_
          rintro e w5 ⟨rfl, hp5, ht5⟩
          rw [← HRR.out] at hp5 ⊢
          have H5 := Lib.hid (And.intro hp5 ht5)
          clear hp5 ht5
          go_wp2_with fail
          go_ret
          have hbd := below_then HW.out.1 HW.out.1.size (HD4.out.below _)
          exact ⟨rfl, H5.out.1, (Tch.of_below hbd).then H5.out.2 (fun _ _ h => h)⟩
    · rw [if_pos (.inr (by rw [hn]; exact hlen))] at hdef
      have t1 : ((n : Int) != (c.S : Int)) = true := by simp; omega
      clear c0 c1 c3 c4 c5 c6 c7 c8 c9 e1 e2 e3 hr hB h0 hr0 hnF hoff hn hth hth' hq hdead hb0
      go_enter Try.func12, Try.ntmps12
      go_wp2_with fail
      refine HA.out.mono ?_
      rintro e w1 ⟨rfl, rfl⟩
      clear hw0
      go_wp2_with fail
      go_quiet (fail)
      go_wp2_with fail
      go_ret
      rw [hdef]
      have hbd := below_drewN HW.out.1 nq
      exact ⟨rfl, ⟨L, h.below hbd⟩, Tch.of_below hbd⟩
  · have hrr : R = (c, askS c b p) := by
      rw [hdef]
      unfold askS at hq ⊢
      by_cases hd : c.dead = true
      · rw [if_pos hd, if_pos hd]
      · rw [if_neg hd] at hq ⊢
        by_cases ht : thereS c b p
        · rw [if_pos ht] at hq
          exact absurd rfl hq
        · rw [if_pos (.inl ht), if_neg hd, if_neg ht]
    generalize askS c b p = q at *
    have hne : ((q : Int) != 0) = true := by simp; omega
    have HA := Lib.hid HA
    clear hr hB h0 hr0 hnF hoff hn hq hb0 hdef hkB
    go_enter Try.func12, Try.ntmps12
    go_wp2_with fail
    refine HA.out.mono ?_
    rintro e w1 ⟨rfl, rfl⟩
    clear hw0
    go_wp2_with fail
    go_ret
    rw [hrr]
    exact ⟨rfl, ⟨L, HW.out.2.1⟩, Tch.of_below HW.out.1⟩
theorem program_off (w : World) (A : Option Addr) (b p : Int) (v : Value) (hv : v.oneCell' = true) (h : ∀ w', Below w.heap.size w w' → Calls Try.prog 41 #[.pointer A] w' fun e w2 => e = .returned (.bool true) ∧ w2 = w') (B : Option Addr) (n d : Nat) (hvv : v = .slice B n d) :
    Calls Try.prog 12 #[.pointer A, .int .i64 b, .int .i64 p, v] w fun e w' => e = .returned (.int .i64 1) ∧ Below w.heap.size w w' := by
  subst hvv
  have hb0 := (Below.refl w.heap.size w).alloc (Nat.le_refl _) (.cells #[.slice B n d] 22)
  have HA := Lib.hid (ask_off _ A b p (h _ hb0))
  have HB := Lib.hid hb0
  clear h hb0
  go_enter Try.func12, Try.ntmps12
  go_wp2_with fail
  refine HA.out.mono ?_
  rintro e w1 ⟨rfl, rfl⟩
  go_wp2_with fail
  go_ret
  exact ⟨rfl, HB.out⟩

set_option maxRecDepth 100000 in
set_option maxHeartbeats 2000000 in
theorem erase_pc {w : World} {F : Nat → Prop} {a : Nat} {L : Lay} {c : Chp} (h : PCx w F a L c) (b : Int) :
    Calls Try.prog 16 #[.pointer (some ⟨a, 0, none⟩), .int .i64 b] w (DoneEnd w F a (eraseS c b)) := by
  have HA := ask_pc h b 0
  obtain ⟨R, hR⟩ : ∃ R, eraseS c b = R := ⟨_, rfl⟩
  rw [hR]
  have hdef : eraseS c b = if c.dead then (c, 10) else if ¬ thereS c b 0 then (c, 2) else if c.bad[b.toNat]? = some true then (c, 9) else doneS c b.toNat (b.toNat * c.N) (List.replicate c.N 255) := rfl
  rw [hR] at hdef
  by_cases hq : askS c b 0 = 0
  · have hdd : c.dead = false ∧ thereS c b 0 := by
      unfold askS at hq
      split at hq
      · cases hq
      · split at hq
        · rename_i h1 h2
          exact ⟨by simpa using h1, h2⟩
        · cases hq
    obtain ⟨hdead, hth⟩ := hdd
    rw [if_neg (by rw [hdead]; simp), if_neg (fun h => h hth)] at hdef
    unfold thereS at hth
    obtain ⟨q, rfl⟩ : ∃ q : Nat, b = (q : Int) := ⟨b.toNat, by omega⟩
    simp only [Int.toNat_natCast] at hdef
    rw [hq] at HA
    have HA := Lib.hid HA
    obtain ⟨c0, c1, c2, c3, c4, c5, c6, c7, c8, c9⟩ := h.cells
    have hqB : q < c.B := by omega
    obtain ⟨xb, hxb, kb⟩ := h.badAt (b := q) hqB
    have y0 := h.kb q hqB
    have hct := h.ct q hqB
    have hbB : (q : Int) < (c.B : Int) := by omega
    have hcd := h.cd
    have hcb := h.cb
    rw [hxb] at hdef
    cases xb with
    | true =>
      rw [if_pos rfl] at hdef
      have HH := Lib.hid h
      clear c0 c1 c3 c4 c6 c7 c8 c9 hth hq hdead y0 hct hxb h
      go_enter Try.func16, Try.ntmps16
      go_wp2_with fail
      refine HA.out.mono ?_
      rintro e w1 ⟨rfl, rfl⟩
      go_wp2_with fail
      go_ret
      rw [hdef]
      exact ⟨rfl, ⟨L, HH.out⟩, Tch.refl _ _⟩
    | false =>
      rw [if_neg (by simp)] at hdef
      have hN := h.ok.n
      have hD := done_pc h (b := q) (off := 0) (n := c.N) (cap := c.N + (L.tl q).length) hqB (by omega) (by omega) hct (List.replicate c.N 255) (by simp) 44 #[] (fun w'' ht i x hx => by
        have hx2 : x = 255 := List.eq_of_mem_replicate (List.mem_of_getElem? hx)
        subst hx2
        exact erase1_any w'' (i : Int)) enter_E
      rw [Nat.add_zero, ← hdef] at hD
      have HD := Lib.hid hD
      clear c0 c1 c2 c3 c6 c7 c8 c9 hth hq hdead hxb hD hdef h hR
      generalize hT : c.N + (L.tl q).length = T at *
      generalize c.N = N at *
      generalize c.B = B at *
      go_enter Try.func16, Try.ntmps16
      go_wp2_with fail
      refine HA.out.mono ?_
      rintro e w1 ⟨rfl, rfl⟩
      go_wp2_with fail
      refine HD.out.mono ?_
      rintro e w5 ⟨rfl, hp5, ht5⟩
      have H5 := Lib.hid (And.intro hp5 ht5)
      clear hp5 ht5
      go_wp2_with fail
      go_ret
      exact ⟨rfl, H5.out.1, H5.out.2⟩
  · have hrr : R = (c, askS c b 0) := by
      rw [hdef]
      unfold askS at hq ⊢
      by_cases hd : c.dead = true
      · rw [if_pos hd, if_pos hd]
      · rw [if_neg hd] at hq ⊢
        by_cases ht : thereS c b 0
        · rw [if_pos ht] at hq
          exact absurd rfl hq
        · rw [if_pos ht, if_neg hd, if_neg ht]
    generalize askS c b 0 = q at *
    have hne : ((q : Int) != 0) = true := by simp; omega
    have HA := Lib.hid HA
    have HH := Lib.hid h
    clear hq hdef h hR
    go_enter Try.func16, Try.ntmps16
    go_wp2_with fail
    refine HA.out.mono ?_
    rintro e w1 ⟨rfl, rfl⟩
    go_wp2_with fail
    go_ret
    rw [hrr]
    exact ⟨rfl, ⟨L, HH.out⟩, Tch.refl _ _⟩
theorem erase_off (w : World) (A : Option Addr) (b : Int) (h : Calls Try.prog 41 #[.pointer A] w fun e w' => e = .returned (.bool true) ∧ w' = w) :
    Calls Try.prog 16 #[.pointer A, .int .i64 b] w fun e w' => e = .returned (.int .i64 1) ∧ w' = w := by
  have HA := Lib.hid (ask_off w A b 0 h)
  clear h
  go_enter Try.func16, Try.ntmps16
  go_wp2_with fail
  refine HA.out.mono ?_
  rintro e w1 ⟨rfl, rfl⟩
  go_wp2_with fail
  go_ret
  exact ⟨rfl, rfl⟩
end Go.Proofs.Ytlcdabmclcfagaa
