import Derived.Test.YtckpgbkabbddnaaKeyMM
import Derived.Test.YtckpgbkabbddnaaMApp
import Derived.Test.YtckpgbkabbddnaaMPut
import Derived.Test.YtckpgbkabbddnaaCostM
set_option linter.unusedVariables false
set_option linter.unusedSimpArgs false
/- The document's names, may a key be: contracts. -/
namespace Go.Proofs.Ytckpgbkabbddnaa
open Go.RowKit

theorem nm_cases (b : UInt8) :
    (mayB b ∧ (((97 : Int) ≤ b.toNat ∧ (b.toNat : Int) ≤ 122) ∨ ((b.toNat : Int) < 97 ∧ 48 ≤ (b.toNat : Int) ∧ (b.toNat : Int) ≤ 57) ∨ ((b.toNat : Int) < 48 ∧ ((b.toNat : Int) == 46) = true) ∨ ((b.toNat : Int) < 48 ∧ ((b.toNat : Int) == 46) = false ∧ ((b.toNat : Int) == 45) = true))) ∨
    (¬ mayB b ∧ ((b.toNat : Int) == 46) = false ∧ ((b.toNat : Int) == 45) = false ∧ ((122 < (b.toNat : Int) ∧ decide ((b.toNat : Int) ≤ 122) = false ∧ decide ((b.toNat : Int) ≤ 57) = false) ∨ (57 < (b.toNat : Int) ∧ (b.toNat : Int) < 97 ∧ decide ((b.toNat : Int) ≤ 57) = false) ∨ (b.toNat : Int) < 48)) := by
  unfold mayB
  generalize b.toNat = n
  simp only [beq_iff_eq, beq_eq_false_iff_ne, ne_eq, decide_eq_false_iff_not]
  omega

set_option maxRecDepth 100000 in
set_option maxHeartbeats 1000000 in
theorem dName_any (w : World) (s : ByteArray) (hs : s.size ≤ maxLen) : Calls Try.prog 63 #[.string s] w fun e w' => e = .returned (.bool (decide (nameS s))) ∧ w' = w := by
  unfold maxLen at hs
  go_enter Try.func63, Try.ntmps63
  go_wp2_with fail
  go_loopg [3] s.size (fun k i wr => ∃ j : Nat, j + k = s.size ∧ i = .int .i64 j ∧ wr = w ∧ ∀ i (h : i < j), mayB (s.data.toList.getD i 0))
  case atStart => exact ⟨0, by omega, rfl, rfl, fun i h => absurd h (Nat.not_lt_zero _)⟩
  case round =>
    obtain ⟨j, hj, rfl, rfl, ho⟩ := hrel
    have HX := Lib.hid (And.intro hj ho)
    clear hj ho
    by_cases hlt : j < s.size
    · have hg := str_get s j hlt
      rcases nm_cases s[j] with ⟨hm, hc⟩ | ⟨hm, q1, q2, hc⟩
      · rw [hg] at hm
        have HM := Lib.hid hm
        clear hm hg
        rcases hc with ⟨c1, c2⟩ | ⟨c1, c2, c3⟩ | ⟨c1, c2⟩ | ⟨c1, c2, c3⟩
        all_goals
          go_wp2_with fail
          go_roundg (s.size - (j + 1))
          case measure => have := HX.out.1; omega
          case rel => exact ⟨j + 1, by have := HX.out.1; omega, by go_num, rfl, fun i h => by
            rcases Nat.lt_succ_iff_lt_or_eq.1 h with h | rfl
            · exact HX.out.2 i h
            · exact HM.out⟩
      · rw [hg] at hm
        have hno : ¬ nameS s := fun h => hm (h.1 _ (by
          rw [List.getD_eq_getElem?_getD, List.getElem?_eq_getElem (by rw [str_len]; exact hlt)]
          exact List.getElem_mem _))
        have HM := Lib.hid hno
        clear hm hno hg
        rcases hc with ⟨c1, c2, c3⟩ | ⟨c1, c2, c3⟩ | c1
        all_goals
          go_wp2_with fail
          go_ret
          exact ⟨ret_bool (decide_eq_false HM.out).symm, rfl⟩
    · obtain rfl : j = s.size := by have := HX.out.1; omega
      have hge : ¬ (s.size : Int) < (s.size : Int) := by omega
      have hd : decide (nameS s) = decide (1 ≤ s.size ∧ s.size ≤ 12 ∧ s.toList ≠ [46] ∧ s.toList ≠ [46, 46]) := decide_eq_decide.2 (nameS_iff HX.out.2)
      have HD := Lib.hid hd
      clear hd
      go_wp2_with fail
      all_goals
        go_ret
        rw [HD.out]
        refine ⟨ret_bool ?_, rfl⟩
        first
          | exact (decide_eq_false (fun h => h.2.2.1 ‹_›)).symm
          | exact (decide_eq_false (fun h => by omega)).symm
          | (have h1 : 1 ≤ s.size := by omega
             have h2 : s.size ≤ 12 := by omega
             have h3 : ¬ s.toList = [46] := by assumption
             have a : (s.toList == [46]) = false := beq_eq_false_iff_ne.2 h3
             by_cases hx : s.toList = [46, 46]
             · rw [decide_eq_false (fun h => h.2.2.2 hx), hx]
               rfl
             · have b : (s.toList == [46, 46]) = false := beq_eq_false_iff_ne.2 hx
               rw [decide_eq_true ⟨h1, h2, h3, hx⟩, a, b]
               rfl)

set_option maxRecDepth 100000 in
set_option maxHeartbeats 1000000 in
theorem dMayK_any (w : World) (k : Ky) (hs : k.name.size ≤ maxLen) : Calls Try.prog 55 #[k.val] w fun e w' => e = .returned (.bool (decide (mayK k))) ∧ Below w.heap.size w w' := by
  obtain ⟨r, hr⟩ : ∃ r, decide (mayK k) = r := ⟨_, rfl⟩
  have HR := Lib.hid hr
  rw [hr]
  clear hr
  obtain ⟨i, a, s, c⟩ := k
  unfold Ky.val
  dsimp only at hs ⊢
  have hbel : Below w.heap.size w (w.alloc (.cells #[.int .i64 i, .int .u8 (a.toNat : Int), .string s, .int .i64 c] 39)) := (Below.refl _ _).alloc (Nat.le_refl _) _
  have HW := Lib.hid hbel
  clear hbel
  by_cases hi : 1 ≤ i ∧ i ≤ 65535
  · have hi1 := hi.1
    have hi2 := hi.2
    rcases what_cases a with ⟨ha, q1⟩ | ⟨ha, q1, q2⟩ | ⟨ha, q1, q2, q3⟩ | ⟨ha, q1, q2, q3⟩
    · have HM := Lib.hid (show decide (s.toList = [] ∧ c = 0) = r by rw [← HR.out, ha]; exact decide_eq_decide.2 (mayK_1 hi1 hi2).symm)
      generalize (a.toNat : Int) = n at *
      clear ha hi
      have hc : c = 0 ∧ (c == 0) = true ∨ c ≠ 0 ∧ (c == 0) = false := by
        by_cases h : c = 0
        · left; simp [h]
        · right; simp [h]
      have hs' : s.toList = [] ∧ (s.toList == []) = true ∨ ¬ s.toList = [] ∧ (s.toList == []) = false := by
        by_cases h : s.toList = []
        · left; exact ⟨h, by rw [h]; rfl⟩
        · right; exact ⟨h, beq_eq_false_iff_ne.2 h⟩
      rcases hs' with ⟨hs', hs2⟩ | ⟨hs', hs2⟩ <;> rcases hc with ⟨hc, hc2⟩ | ⟨hc, hc2⟩
      all_goals
        have HN := Lib.hid (And.intro hs' hc)
        clear hs' hc
        go_enter Try.func55, Try.ntmps55
        go_wp2_with fail
        all_goals
          go_ret
          rw [← HM.out]
          refine ⟨ret_bool ?_, (Below.refl _ _).alloc (Nat.le_refl _) _⟩
          first
            | exact (decide_eq_true ⟨HN.out.1, HN.out.2⟩).symm
            | exact (decide_eq_false (fun h => HN.out.1 h.1)).symm
            | exact (decide_eq_false (fun h => HN.out.2 h.2)).symm
    · have hc : c = 0 ∧ (c == 0) = true ∨ c ≠ 0 ∧ (c == 0) = false := by
        by_cases h : c = 0
        · left; simp [h]
        · right; simp [h]
      have HM := Lib.hid (show decide (nameS s ∧ c = 0) = r by rw [← HR.out, ha]; exact decide_eq_decide.2 (mayK_2 hi1 hi2).symm)
      generalize (a.toNat : Int) = n at *
      clear ha hi
      rcases hc with ⟨hc, hc'⟩ | ⟨hc, hc'⟩ <;> by_cases hn : nameS s
      all_goals
        have HN := Lib.hid (And.intro hn hc)
        clear hn hc
        go_enter Try.func55, Try.ntmps55
        go_wp2_with (go_at_call 63; refine (dName_any _ s hs).mono ?_; rintro e w1 ⟨rfl, rfl⟩; first | rw [decide_eq_true HN.out.1] | rw [decide_eq_false HN.out.1])
        go_ret
        rw [← HM.out]
        refine ⟨ret_bool ?_, (Below.refl _ _).alloc (Nat.le_refl _) _⟩
        first
          | exact (decide_eq_true HN.out).symm
          | exact (decide_eq_false (fun h => HN.out.1 h.1)).symm
          | exact (decide_eq_false (fun h => HN.out.2 h.2)).symm
    · have HM := Lib.hid (show decide (s.toList = [] ∧ 0 ≤ c ∧ c < 8) = r by rw [← HR.out, ha]; exact decide_eq_decide.2 (mayK_3 hi1 hi2).symm)
      generalize (a.toNat : Int) = n at *
      clear ha hi
      have hc : c < 0 ∨ (0 ≤ c ∧ c < 8) ∨ 8 ≤ c := by omega
      have hs' : s.toList = [] ∧ (s.toList == []) = true ∨ ¬ s.toList = [] ∧ (s.toList == []) = false := by
        by_cases h : s.toList = []
        · left; exact ⟨h, by rw [h]; rfl⟩
        · right; exact ⟨h, beq_eq_false_iff_ne.2 h⟩
      rcases hs' with ⟨hs', hs2⟩ | ⟨hs', hs2⟩ <;> rcases hc with hc | hc | hc
      all_goals
        have HN := Lib.hid (And.intro hs' hc)
        clear hs'
        go_enter Try.func55, Try.ntmps55
        go_wp2_with fail
        all_goals
          go_ret
          rw [← HM.out]
          refine ⟨ret_bool ?_, (Below.refl _ _).alloc (Nat.le_refl _) _⟩
          first
            | exact (decide_eq_true ⟨HN.out.1, HN.out.2⟩).symm
            | exact (decide_eq_false (fun h => HN.out.1 h.1)).symm
            | exact (decide_eq_false (fun h => by have := HN.out.2; omega)).symm
            | (have hq := HN.out.2
               rw [decide_eq_false (show ¬ (s.toList = [] ∧ 0 ≤ c ∧ c < 8) from fun h => by omega), decide_eq_false (by omega)])
            | (have hq := HN.out.2
               rw [decide_eq_true (show (s.toList = [] ∧ 0 ≤ c ∧ c < 8) from ⟨HN.out.1, by omega, by omega⟩), decide_eq_true (by omega)])
    · have HM := Lib.hid (show false = r by rw [← HR.out]; exact (decide_eq_false (mayK_4 ha)).symm)
      generalize (a.toNat : Int) = n at *
      clear ha hi
      go_enter Try.func55, Try.ntmps55
      go_wp2_with fail
      go_ret
      exact ⟨ret_bool HM.out, HW.out⟩
  · have HM := Lib.hid (show false = r by rw [← HR.out]; exact (decide_eq_false (mayK_0 hi)).symm)
    have hi' : i < 1 ∨ (1 ≤ i ∧ 65535 < i) := by omega
    clear hi
    generalize (a.toNat : Int) = n at *
    rcases hi' with hi | ⟨hi, hi'⟩
    all_goals
      go_enter Try.func55, Try.ntmps55
      go_wp2_with fail
      go_ret
      exact ⟨ret_bool HM.out, HW.out⟩
end Go.Proofs.Ytckpgbkabbddnaa

/- A key's bytes: the document's contract. -/
namespace Go.Proofs.Ytckpgbkabbddnaa
open Go.RowKit

def DPutKeyEnd (w : World) (r : List UInt8 × Nat) (e : Ending) (w' : World) : Prop :=
  ∃ v, e = .returned (.tuple #[v, .int .i64 (r.2 : Int)]) ∧ OwnB 5 w' w.heap.size v r.1 ∧ Below w.heap.size w w'
theorem digs2K (m : Nat) (h : m ≤ 65535) (a : UInt8) : (bv (digs m 2 ++ [a])).toArray = #[.int .u8 ((m : Int) % 256), .int .u8 ((m : Int) / 256), .int .u8 (a.toNat : Int)] := by
  have e1 : ((UInt8.ofNat (m / 256 ^ 0)).toNat : Int) = (m : Int) % 256 := by rw [UInt8.toNat_ofNat']; omega
  have e2 : ((UInt8.ofNat (m / 256 ^ 1)).toNat : Int) = (m : Int) / 256 := by rw [UInt8.toNat_ofNat']; omega
  rw [← e1, ← e2]
  simp [bv, digs, List.range_succ]

theorem wpList_appB1H {P : Program} (W : World) {ops : Array Oper} {rest : List Oper} {o : Oper} {a : Act} {Q : Exit → Act → World → Prop} (hgd : o.guard = none) (s x : Operand) (t : TypeId)
    (ho : o.op = .call { callee := .builtin .append, args := #[s, x], argTypes := #[t, t] })
    (base : Nat) (e : TypeId) (ht : P.underlying t = some (.slice e)) (hinfo : (P.info? e).map (fun i => (i.zero, i.size, i.bytes)) = some (some (.int .u8 0), 1, 1))
    (v : Value) (xs : List UInt8) (hs : a.eval s = v) (hown : OwnB e W base v xs) (y : Int) (b : UInt8) (H : Nat) (hH : W.heap.size = H) (hx : a.eval x = .slice (some ⟨H, 0, none⟩) 1 1) (hy : y = (b.toNat : Int)) (hsz : xs.length + 1 ≤ 140737488355328) (hbase : base ≤ W.heap.size)
    (h : ∀ v' w', OwnB e w' base v' (xs ++ [b]) → W.grownBy w' v.ownBlock → wpList P ops Q rest (a.put o.dst v') w') : wpList P ops Q (o :: rest) a (W.alloc (.cells #[.int .u8 y] e)) := by
  subst hH
  exact wpList_appB1 W hgd s x t ho base e ht hinfo v xs hs hown y b hx hy hsz hbase h

set_option maxRecDepth 100000 in
set_option maxHeartbeats 1000000 in
theorem dPutKey_any (w : World) (k : Ky) (hs : k.name.size ≤ maxLen) : Calls Try.prog 39 #[k.val] w (DPutKeyEnd w (putKeyS k)) := by
  by_cases hm : mayK k
  · have hput : putKeyS k = (keyB k, 0) := if_pos hm
    rw [hput]
    have hdm : decide (mayK k) = true := decide_eq_true hm
    have hC := fun w => dMayK_any w k hs
    rw [hdm] at hC
    have HC := Lib.hid hC
    clear hC hdm hput
    obtain ⟨i, a, s, c⟩ := k
    obtain ⟨hi1, hi2, hk⟩ := hm
    dsimp only at hi1 hi2 hk hs
    unfold Ky.val at *
    dsimp only at HC ⊢
    have hblk := Blk.new w 39 #[.int .i64 i, .int .u8 (a.toNat : Int), .string s, .int .i64 c]
    have HB := Lib.hid hblk
    clear hblk
    obtain ⟨m, rfl⟩ : ∃ m : Nat, i = m := ⟨i.toNat, by omega⟩
    have hm65 : m ≤ 65535 := by omega
    have hd2 := digs2K m hm65 a
    have hdl := digs_length m 2
    rcases hk with ⟨ha, hn, hc⟩ | ⟨ha, hn, hc⟩ | ⟨ha, hn, hc, hc8⟩
    · have q1 : ((a.toNat : Int) == 2) = false := by rw [ha]; rfl
      have q2 : ((a.toNat : Int) == 3) = false := by rw [ha]; rfl
      have hkb : keyB ⟨m, a, s, c⟩ = digs m 2 ++ [a] := by rw [ha]; simp [keyB]
      rw [hkb]
      clear ha hn hc hkb
      generalize hA : (a.toNat : Int) = n at *
      have HA := Lib.hid hA.symm
      generalize hD : digs m 2 ++ [a] = D at *
      have hDl : D.length = 3 := by rw [← hD, List.length_append, hdl]; rfl
      have HD := Lib.hid (And.intro hd2 hDl)
      clear hA hD hd2 hDl hdl
      go_enter Try.func39, Try.ntmps39
      go_wp2_with (first
        | (go_at_call 55; refine (HC.out _).mono ?_; rintro e w1 ⟨rfl, hb1⟩; have k0 := HB.out.below hb1 HB.out.lt; have c0 := k0.cell 0; have c1 := k0.cell 1; have c2 := k0.cell 2; have c3 := k0.cell 3; simp at c0 c1 c2 c3; have hszw := k0.lt; have H1 := Lib.hid (And.intro (below_new hb1) k0); clear hb1 k0))
      go_ret2
      exact ⟨_, rfl, (own_lit w1 5 D _ HD.out.1 3 HD.out.2 (by decide)).lower H1.out.1.size, H1.out.1.alloc H1.out.1.size _⟩
    · have hl12 : s.size ≤ 12 := hn.2.2.1
      have q1 : ((a.toNat : Int) == 2) = true := by rw [ha]; rfl
      have hkb : keyB ⟨m, a, s, c⟩ = digs m 2 ++ [a] ++ (UInt8.ofNat s.size :: s.data.toList) := by rw [ha]; simp [keyB]
      have hzb : (s.size : Int) = ((UInt8.ofNat s.size).toNat : Int) := by rw [UInt8.toNat_ofNat']; omega
      rw [hkb]
      clear ha hn hc hkb
      generalize hA : (a.toNat : Int) = n at *
      have HA := Lib.hid hA.symm
      generalize hD : digs m 2 ++ [a] = D at *
      have hDl : D.length = 3 := by rw [← hD, List.length_append, hdl]; rfl
      have HD := Lib.hid (And.intro hd2 (And.intro hDl hzb))
      clear hA hD hd2 hDl hdl hzb
      go_enter Try.func39, Try.ntmps39
      go_wp2_with fail
      refine (HC.out _).mono ?_
      rintro e w1 ⟨rfl, hb1⟩
      have k0 := HB.out.below hb1 HB.out.lt
      have c0 := k0.cell 0
      have c1 := k0.cell 1
      have c2 := k0.cell 2
      have c3 := k0.cell 3
      simp at c0 c1 c2 c3
      have hszw := k0.lt
      have hbW : Below w1.heap.size w1 (w1.alloc (.cells #[.int .u8 ((m : Int) % 256), .int .u8 ((m : Int) / 256), .int .u8 n] 5)) := (Below.refl _ _).alloc (Nat.le_refl _) _
      have hb0 := below_new hb1
      have HW := Lib.hid (And.intro (own_lit w1 5 D _ HD.out.1 3 HD.out.2.1 (by decide)) (And.intro (below_then hb0 hb0.size hbW) (And.intro (k0.below hbW k0.lt) hb0)))
      clear hb1 k0 hbW hb0
      go_wp2_with (at_builtin; refine wpList_appB1H _ rfl _ _ 28 rfl w1.heap.size 5 Try.underlying28 u8info (.slice (some ⟨w1.heap.size, 0, none⟩) 3 3) D rfl HW.out.1 _ (UInt8.ofNat s.size) _ (alloc_sz _ _) rfl HD.out.2.2 (by rw [HD.out.2.1]; omega) (by rw [alloc_sz]; omega) ?_)
      intro v2 w2 ho2 hg2
      have H2 := Lib.hid (And.intro ho2 (And.intro (HW.out.2.1.grown hg2 HW.out.2.1.size (fun k e => by have := (HW.out.1.blk e).1; omega)) (HW.out.2.2.1.grown hg2 (fun e => by have := (HW.out.1.blk e.symm).1; omega))))
      have hs2 := hg2.size
      rw [alloc_sz] at hs2
      clear ho2 hg2 c0 c1 c2 c3
      go_wp2_with fail
      go_loopg [4, 5] s.size (fun k v i wr => ∃ j : Nat, j + k = s.size ∧ i = .int .i64 j ∧ OwnB 5 wr w1.heap.size v (D ++ [UInt8.ofNat s.size] ++ s.data.toList.take j) ∧ Below w.heap.size w wr ∧ Blk wr w.heap.size 39 #[.int .i64 m, .int .u8 n, .string s, .int .i64 c] ∧ w1.heap.size ≤ wr.heap.size)
      case atStart => exact ⟨0, by omega, rfl, by simpa using H2.out.1, H2.out.2.1, H2.out.2.2, by omega⟩
      case round =>
        obtain ⟨j, hj, rfl, ho, hb, hk, hsz⟩ := hrel
        have c2 := hk.cell 2
        have c3 := hk.cell 3
        simp at c2 c3
        have HX := Lib.hid (And.intro hj (And.intro ho (And.intro hb hk)))
        clear hj ho hb hk
        by_cases hlt : j < s.size
        · have hg := str_get s j hlt
          have hx : s.data.toList[j]? = some s[j] := by rw [List.getElem?_eq_getElem (by rw [str_len]; exact hlt)]; rfl
          have htk : D ++ [UInt8.ofNat s.size] ++ s.data.toList.take (j + 1) = D ++ [UInt8.ofNat s.size] ++ s.data.toList.take j ++ [s[j]] := by
            rw [List.take_add_one, hx]; simp
          have hlen : (D ++ [UInt8.ofNat s.size] ++ s.data.toList.take j).length ≤ 20 := by
            rw [List.length_append, List.length_append, HD.out.2.1, List.length_take]; simp; omega
          have HT := Lib.hid htk
          have hown := HX.out.2.1
          generalize D ++ [UInt8.ofNat s.size] ++ s.data.toList.take j = G at hown hlen HT
          have HO := Lib.hid hown
          clear hg hx htk hown
          go_wp2_with (at_builtin; refine wpList_appB1 wr rfl _ _ 28 rfl w1.heap.size 5 Try.underlying28 u8info u4 G rfl HO.out _ s[j] rfl rfl (by omega) hsz ?_)
          intro v3 w3 ho3 hg3
          rw [← HT.out] at ho3
          have H3 := Lib.hid (And.intro ho3 (And.intro (HX.out.2.2.1.grown hg3 HX.out.2.2.1.size (fun k e => by have := (HO.out.blk e).1; omega)) (HX.out.2.2.2.grown hg3 (fun e => by have := (HO.out.blk e.symm).1; omega))))
          have hs3 := hg3.size
          clear ho3 hg3 c2 c3
          go_wp2_with fail
          go_roundg (s.size - (j + 1))
          case measure => have := HX.out.1; omega
          case rel => exact ⟨j + 1, by have := HX.out.1; omega, by go_num, H3.out.1, H3.out.2.1, H3.out.2.2, by omega⟩
        · obtain rfl : j = s.size := by have := HX.out.1; omega
          have hge : ¬ (s.size : Int) < (s.size : Int) := by omega
          have ho := HX.out.2.1
          rw [List.take_of_length_le (by rw [str_len]; exact Nat.le_refl _), List.append_assoc] at ho
          have HO := Lib.hid (ho.lower (show w.heap.size ≤ w1.heap.size by omega))
          clear ho
          go_wp2_with fail
          go_ret2
          exact ⟨_, rfl, HO.out, HX.out.2.2.1⟩
    · obtain ⟨z, rfl⟩ : ∃ z : Nat, c = z := ⟨c.toNat, by omega⟩
      have q1 : ((a.toNat : Int) == 2) = false := by rw [ha]; rfl
      have q2 : ((a.toNat : Int) == 3) = true := by rw [ha]; rfl
      have hkb : keyB ⟨m, a, s, z⟩ = digs m 2 ++ [a] ++ [UInt8.ofNat z] := by rw [ha]; simp [keyB]
      have hzb : (z : Int) = ((UInt8.ofNat z).toNat : Int) := by rw [UInt8.toNat_ofNat']; omega
      rw [hkb]
      clear ha hn hkb
      generalize hA : (a.toNat : Int) = n at *
      have HA := Lib.hid hA.symm
      generalize hD : digs m 2 ++ [a] = D at *
      have hDl : D.length = 3 := by rw [← hD, List.length_append, hdl]; rfl
      have HD := Lib.hid (And.intro hd2 (And.intro hDl hzb))
      clear hA hD hd2 hDl hdl hzb
      go_enter Try.func39, Try.ntmps39
      go_wp2_with fail
      refine (HC.out _).mono ?_
      rintro e w1 ⟨rfl, hb1⟩
      have k0 := HB.out.below hb1 HB.out.lt
      have c0 := k0.cell 0
      have c1 := k0.cell 1
      have c2 := k0.cell 2
      have c3 := k0.cell 3
      simp at c0 c1 c2 c3
      have hszw := k0.lt
      have hbW : Below w1.heap.size w1 (w1.alloc (.cells #[.int .u8 ((m : Int) % 256), .int .u8 ((m : Int) / 256), .int .u8 n] 5)) := (Below.refl _ _).alloc (Nat.le_refl _) _
      have hb0 := below_new hb1
      have HW := Lib.hid (And.intro (own_lit w1 5 D _ HD.out.1 3 HD.out.2.1 (by decide)) (And.intro (below_then hb0 hb0.size hbW) (And.intro (k0.below hbW k0.lt) hb0)))
      clear hb1 k0 hbW hb0
      go_wp2_with (at_builtin; refine wpList_appB1H _ rfl _ _ 28 rfl w1.heap.size 5 Try.underlying28 u8info (.slice (some ⟨w1.heap.size, 0, none⟩) 3 3) D rfl HW.out.1 _ (UInt8.ofNat z) _ (alloc_sz _ _) rfl HD.out.2.2 (by rw [HD.out.2.1]; omega) (by rw [alloc_sz]; omega) ?_)
      intro v2 w2 ho2 hg2
      have H2 := Lib.hid (And.intro (ho2.lower (show w.heap.size ≤ w1.heap.size by omega)) (HW.out.2.1.grown hg2 HW.out.2.1.size (fun k e => by have := (HW.out.1.blk e).1; omega)))
      clear ho2 hg2 c0 c1 c2 c3
      go_wp2_with fail
      go_ret2
      exact ⟨_, rfl, H2.out.1, H2.out.2⟩
  · have hput : putKeyS k = ([], 2) := if_neg hm
    rw [hput]
    have hdm : decide (mayK k) = false := decide_eq_false hm
    have hC := fun w => dMayK_any w k hs
    rw [hdm] at hC
    have HC := Lib.hid hC
    clear hC hdm hput hm
    obtain ⟨i, a, s, c⟩ := k
    unfold Ky.val at *
    dsimp only at HC ⊢
    generalize (a.toNat : Int) = n at *
    go_enter Try.func39, Try.ntmps39
    go_wp2_with (first
      | (go_at_call 55; refine (HC.out _).mono ?_; rintro e w1 ⟨rfl, hb1⟩; have H1 := Lib.hid (below_new hb1); clear hb1))
    go_ret2
    exact ⟨_, rfl, OwnB.nil _ _ _, H1.out⟩
end Go.Proofs.Ytckpgbkabbddnaa

/- Layer 13, the document's Cost: contract. -/
namespace Go.Proofs.Ytckpgbkabbddnaa
open Go.RowKit

set_option maxRecDepth 100000 in
set_option maxHeartbeats 1000000 in
theorem dCost_any (w : World) (f : Fct) (hs : okKy f.key) (A : Option Addr) (n d : Nat) (hn : f.val.length = n) (hn2 : n ≤ 140737488351232) :
    Calls Try.prog 18 #[.agg #[.int .i64 f.key.ino, .int .u8 (f.key.what.toNat : Int), .string f.key.name, .int .i64 f.key.chunk, .slice A n d]] w
      fun e w' => e = .returned (.int .i64 (costS f : Int)) ∧ Below w.heap.size w w' := by
  have hC := fun w => dPutKey_any w f.key hs
  have HC := Lib.hid hC
  clear hC
  unfold costS
  rw [hn]
  obtain ⟨⟨i, a, s, c⟩, l⟩ := f
  unfold Ky.val at HC
  dsimp only at HC ⊢
  have hblk := Blk.new w 41 #[.int .i64 i, .int .u8 (a.toNat : Int), .string s, .int .i64 c, .slice A n d]
  have HB := Lib.hid hblk
  clear hblk hn
  by_cases hm : mayK ⟨i, a, s, c⟩
  · have hpk : putKeyS ⟨i, a, s, c⟩ = (keyB ⟨i, a, s, c⟩, 0) := if_pos hm
    rw [hpk] at HC
    have hkl := (keyB_length hm).2
    rw [if_pos hm]
    generalize keyB ⟨i, a, s, c⟩ = kb at *
    clear hm hpk
    obtain ⟨m, hm⟩ : ∃ m, kb.length = m := ⟨_, rfl⟩
    rw [hm] at hkl ⊢
    have HM := Lib.hid hm
    clear hm
    go_enter Try.func18, Try.ntmps18
    go_wp2_with (go_at_call 39; refine (HC.out _).mono ?_; rintro e w1 ⟨v1, rfl, ho1, hb1⟩; obtain ⟨A1, c1, rfl, hrv1, _, _, _⟩ := ho1.slice; dsimp only at hrv1 ⊢; rw [HM.out]; have k0 := HB.out.below hb1 HB.out.lt; have c4 := k0.cell 4; simp at c4; have H1 := Lib.hid (below_new hb1); clear hb1 ho1 k0 hrv1)
    go_ret
    refine ⟨?_, H1.out⟩; go_num
  · have hpk : putKeyS ⟨i, a, s, c⟩ = ([], 2) := if_neg hm
    rw [hpk] at HC
    rw [if_neg hm]
    clear hm hpk
    go_enter Try.func18, Try.ntmps18
    go_wp2_with (go_at_call 39; refine (HC.out _).mono ?_; rintro e w1 ⟨v1, rfl, ho1, hb1⟩; have H1 := Lib.hid (below_new hb1); clear hb1 ho1)
    go_ret
    refine ⟨?_, H1.out⟩; go_num
end Go.Proofs.Ytckpgbkabbddnaa
