/- EndsBack: the walk. -/
import Derived.Test.YtljnhcoeeloadaaEndsRefused
import Derived.Test.YtljnhcoeeloadaaRowsIn
set_option linter.unusedVariables false
set_option linter.unusedSimpArgs false
namespace Go.Proofs.Ytljnhcoeeloadaa
open Go.RowKit

/-! ### plain lists -/
def szOf (j : Nat) : Nat := 2 ^ (j % 4)
theorem szOf_cases (j : Nat) : szOf j = 1 ∨ szOf j = 2 ∨ szOf j = 4 ∨ szOf j = 8 := by
  have h : j % 4 = 0 ∨ j % 4 = 1 ∨ j % 4 = 2 ∨ j % 4 = 3 := by omega
  unfold szOf
  rcases h with h | h | h | h <;> rw [h] <;> simp
theorem szOf_isSz (j : Nat) : IsSz (szOf j : Int) := by
  rcases szOf_cases j with h | h | h | h <;> rw [h]
  · exact .inl rfl
  · exact .inr (.inl rfl)
  · exact .inr (.inr (.inl rfl))
  · exact .inr (.inr (.inr rfl))
theorem szOf_pos (j : Nat) : 1 ≤ szOf j := by rcases szOf_cases j with h | h | h | h <;> omega
theorem szOf_le (j : Nat) : szOf j ≤ 8 := by rcases szOf_cases j with h | h | h | h <;> omega
theorem wrap_sz (j : Nat) : wrap64 ((2 : Int) ^ (j % 4)) = (szOf j : Int) := by
  have h : j % 4 = 0 ∨ j % 4 = 1 ∨ j % 4 = 2 ∨ j % 4 = 3 := by omega
  unfold szOf
  rcases h with h | h | h | h <;> rw [h] <;> (unfold wrap64; omega)
/-- The number that is put at place j. -/
def numAt (l : List Nat) (j : Nat) : Nat := l.getD j 0 / 2 ^ (64 - 8 * szOf j)
def encN (l : List Nat) (j : Nat) : List UInt8 := digs (numAt l j) (szOf j)
def encR (r : List UInt8) : List UInt8 := if r.length ≤ 255 then UInt8.ofNat r.length :: r else []
theorem leval_digs (n s : Nat) : leval (digs n s) = n % 256 ^ s := by
  induction s generalizing n with
  | zero => simp [digs, leval, Nat.mod_one]
  | succ s ih =>
    have e : digs n (s + 1) = UInt8.ofNat n :: digs (n / 256) s := by
      unfold digs
      rw [List.range_succ_eq_map]
      simp only [List.map_cons, List.map_map, Nat.pow_zero, Nat.div_one]
      congr 1
      apply List.map_congr_left
      intro i _
      show UInt8.ofNat (n / 256 ^ (i + 1)) = UInt8.ofNat (n / 256 / 256 ^ i)
      rw [Nat.pow_succ, Nat.mul_comm, Nat.div_div_eq_div_mul]
    have hp : 256 ^ (s + 1) = 256 * 256 ^ s := by rw [Nat.pow_succ, Nat.mul_comm]
    rw [e, leval, ih, UInt8.toNat_ofNat', hp, Nat.mod_mul]
theorem numAt_lt (l : List Nat) (j : Nat) (h : l.getD j 0 < 18446744073709551616) : numAt l j < 256 ^ szOf j := by
  unfold numAt
  generalize l.getD j 0 = x at h
  have e64 : (18446744073709551616 : Nat) = 2 ^ 64 := by decide
  have hp : (256 : Nat) ^ szOf j = 2 ^ (8 * szOf j) := by rw [Nat.pow_mul]
  rw [hp]
  have h8 : 8 * szOf j ≤ 64 := by rcases szOf_cases j with h | h | h | h <;> omega
  refine Nat.div_lt_of_lt_mul ?_
  rw [← Nat.pow_add]
  have : 64 - 8 * szOf j + 8 * szOf j = 64 := by omega
  rw [this, ← e64]
  exact h
theorem nats_of_wf : ∀ (zs : List Int), (∀ n ∈ zs, (Lit.int .u64 n).wf = true) → ∃ l : List Nat, zs = l.map (fun n : Nat => (n : Int)) ∧ ∀ n ∈ l, n < 18446744073709551616
  | [], _ => ⟨[], rfl, fun _ h => by cases h⟩
  | n :: zs, h => by
    obtain ⟨l, hx, hl⟩ := nats_of_wf zs (fun m hm => h m (by simp [hm]))
    obtain ⟨m, hm, hlt⟩ := u64_nat (h n (by simp))
    refine ⟨m :: l, by simp [hx, hm], fun k hk => ?_⟩
    rcases List.mem_cons.1 hk with rfl | hk
    · exact hlt
    · exact hl k hk
/-- All numbers ahead of place j; all rows ahead of place i; what is behind them. -/
def numsTo (l : List Nat) (j : Nat) : List UInt8 := (List.range j).flatMap (encN l)
def rowsTo (R : List (List UInt8)) (i : Nat) : List UInt8 := (List.range i).flatMap fun k => encR (R.getD k [])
def numsFrom (l : List Nat) (j d : Nat) : List UInt8 := (List.range' j d).flatMap (encN l)
def rowsFrom (R : List (List UInt8)) (i d : Nat) : List UInt8 := (List.range' i d).flatMap fun k => encR (R.getD k [])
theorem numsTo_succ (l : List Nat) (j : Nat) : numsTo l (j + 1) = numsTo l j ++ encN l j := by simp [numsTo, List.range_succ]
theorem rowsTo_succ (R : List (List UInt8)) (j : Nat) : rowsTo R (j + 1) = rowsTo R j ++ encR (R.getD j []) := by simp [rowsTo, List.range_succ]
theorem numsFrom_succ (l : List Nat) (j d : Nat) : numsFrom l j (d + 1) = encN l j ++ numsFrom l (j + 1) d := by simp [numsFrom, List.range'_succ]
theorem rowsFrom_succ (R : List (List UInt8)) (j d : Nat) : rowsFrom R j (d + 1) = encR (R.getD j []) ++ rowsFrom R (j + 1) d := by simp [rowsFrom, List.range'_succ]
theorem numsTo_from (l : List Nat) (n : Nat) : numsTo l n = numsFrom l 0 n := by simp [numsTo, numsFrom, List.range_eq_range']
theorem rowsTo_from (R : List (List UInt8)) (n : Nat) : rowsTo R n = rowsFrom R 0 n := by simp [rowsTo, rowsFrom, List.range_eq_range']
theorem encN_length (l : List Nat) (j : Nat) : (encN l j).length = szOf j := digs_length _ _
theorem encR_length (r : List UInt8) : (encR r).length ≤ 256 := by unfold encR; split <;> simp; omega
theorem numsTo_length (l : List Nat) (j : Nat) : (numsTo l j).length ≤ 8 * j := by
  induction j with
  | zero => simp [numsTo]
  | succ j ih =>
    rw [numsTo_succ, List.length_append, encN_length]
    rcases szOf_cases j with h | h | h | h <;> omega
theorem rowsTo_length (R : List (List UInt8)) (j : Nat) : (rowsTo R j).length ≤ 256 * j := by
  induction j with
  | zero => simp [rowsTo]
  | succ j ih =>
    rw [rowsTo_succ, List.length_append]
    have := encR_length (R.getD j [])
    omega

theorem leval_encN (l : List Nat) (n : Nat) (h : l.getD n 0 < 18446744073709551616) : leval (encN l n) = numAt l n := by
  unfold encN
  rw [leval_digs]
  exact Nat.mod_eq_of_lt (numAt_lt l n h)
theorem getD_lt {l : List Nat} {n b : Nat} (hn : n < l.length) (h : ∀ x ∈ l, x < b) : l.getD n 0 < b := by
  rw [List.getD_eq_getElem?_getD, List.getElem?_eq_getElem hn]
  exact h _ (List.getElem_mem _)
theorem numAt_eq {l : List Nat} {n : Nat} (hn : n < l.length) : ((l[n] : Nat) : Int) / 2 ^ (64 - 8 * szOf n) = (numAt l n : Int) := by
  unfold numAt
  rw [List.getD_eq_getElem?_getD, List.getElem?_eq_getElem hn]
  simp

set_option maxRecDepth 100000 in
set_option maxHeartbeats 8000000 in
theorem backWalk (w : World) (A : Option Addr) (c : Nat) (l : List Nat) (hr : RV w A (l.map (fun n : Nat => Value.int .u64 (n : Int)))) (hl64 : ∀ n ∈ l, n < 18446744073709551616) (hR : l.length * 8 ≤ 140737488351232)
    (A1 : Option Addr) (c1 : Nat) (rows : List (Value × List UInt8)) (hr1 : RV w A1 (rows.map (·.1))) (hw1 : ∀ r ∈ rows, RowAt w r) (hR1 : rows.length * 24 ≤ 140737488351232)
    (N M : Nat) (hN1 : N ≤ l.length) (hN2 : N ≤ 40) (hN3 : l.length ≤ N ∨ (40 ≤ N ∧ 40 < l.length)) (hM1 : M ≤ rows.length) (hM2 : M ≤ 40) (hM3 : rows.length ≤ M ∨ (40 ≤ M ∧ 40 < rows.length)) :
    Calls Try.prog 7 #[.slice A l.length c, .slice A1 rows.length c1] w fun e w' => e = .returned (.bool true) ∧ Below w.heap.size w w' := by
  have HR := Lib.hid (And.intro hr (And.intro hr1 (And.intro hl64 hw1)))
  clear hr hr1 hl64 hw1
  rcases hN3 with hN3 | ⟨hN3, hN4⟩ <;> rcases hM3 with hM3 | ⟨hM3, hM4⟩
  all_goals
    go_enter Try.func7, Try.ntmps7
    go_wp2_with fail
    go_loopg [5, 6] N (fun k o i wr => ∃ j : Nat, j + k = N ∧ i = .int .i64 j ∧ OwnB 5 wr w.heap.size o (numsTo l j) ∧ Below w.heap.size w wr)
    case atStart => exact ⟨0, by omega, rfl, OwnB.nil _ _ _, Below.refl _ _⟩
    case round => as_aux_lemma =>
      obtain ⟨j, hj, rfl, hown, hb⟩ := hrel
      have HX := Lib.hid (And.intro hj (And.intro hown hb))
      have hjN : j ≤ N := by omega
      clear hj hown hb
      by_cases hlt : j < N
      · obtain ⟨ad, rfl, hcell⟩ := (HR.out.1.below HX.out.2.2).at_ (k := j) (by rw [List.length_map]; omega)
        rw [List.getElem_map] at hcell
        have hx64 := HR.out.2.2.1 (l[j]'(by omega)) (List.getElem_mem _)
        have hnum : (((l[j]'(by omega)) : Int) / 2 ^ (64 - 8 * szOf j)) = (numAt l j : Int) := by
          unfold numAt
          rw [List.getD_eq_getElem?_getD, List.getElem?_eq_getElem (show j < l.length by omega)]
          simp
        have hnlt := numAt_lt l j (by rw [List.getD_eq_getElem?_getD, List.getElem?_eq_getElem (show j < l.length by omega)]; exact hx64)
        generalize (l[j]'(by omega)) = x at hcell hx64 hnum
        have hsz := wrap_sz j
        have hs1 := szOf_pos j
        have hs8 := szOf_le j
        generalize hszv : szOf j = m at hnum hnlt hsz hs1 hs8
        have HN := Lib.hid (And.intro hnlt (And.intro hszv hx64))
        clear hnlt hszv hx64
        go_wp2_with fail
        refine (put_ok (numAt l j) m wr (by rw [← HN.out.2.1]; exact szOf_isSz j) HN.out.1 (Nat.lt_of_le_of_lt (Nat.div_le_self _ _) (by rw [List.getD_eq_getElem?_getD, List.getElem?_eq_getElem (show j < l.length by omega)]; exact HR.out.2.2.1 _ (List.getElem_mem _)))).mono ?_
        rintro e w1 ⟨v1, rfl, ho1, hb1⟩
        have henc : digs (numAt l j) m = encN l j := by unfold encN; rw [HN.out.2.1]
        have hlen := digs_length (numAt l j) m
        rw [henc] at ho1 hlen
        obtain ⟨A2, c2, rfl, hrv2, _, _, _⟩ := ho1.slice
        rw [hlen] at ho1 ⊢
        have Y := Lib.hid (And.intro ho1 (And.intro hrv2 (And.intro hb1 hlen)))
        have Yo := Lib.hid (And.intro (HX.out.2.1.below hb1) (below_then HX.out.2.2 HX.out.2.2.size hb1))
        have hsz1 : (numsTo l j).length + (encN l j).length ≤ 140737488355328 := by
          have := numsTo_length l j
          rw [hlen]
          omega
        have HS := Lib.hid hsz1
        clear ho1 hrv2 hb1 hlen henc hsz1
        go_wp2_with (at_builtin; refine wpList_appB _ rfl _ _ 22 rfl w.heap.size 5 Try.underlying22 u8info u5 (numsTo l j) rfl Yo.out.1 A2 m c2 (encN l j) rfl Y.out.2.2.2 Y.out.2.1 HS.out (Yo.out.2.size) ?_)
        intro v3 w3 ho3 hg3 _
        have Z := Lib.hid (And.intro ho3 hg3)
        clear ho3 hg3
        go_wp2_with fail
        have hj := HX.out.1
        go_roundg (N - (j + 1))
        case measure => omega
        case rel => exact ⟨j + 1, by omega, by go_num, by rw [numsTo_succ]; exact Z.out.1, Yo.out.2.grown Z.out.2 Yo.out.2.size (fun k hk => (Yo.out.1.blk hk).1)⟩
      · have hjN2 : j = N := by omega
        subst hjN2
        go_wp2_with fail
        have HE := Lib.hid HX.out.2
        clear HX
        obtain ⟨wo, rfl⟩ : ∃ wo : World, wo = wr := ⟨_, rfl⟩
        go_loopg [5, 10] M (fun k o i wr => ∃ n : Nat, n + k = M ∧ i = .int .i64 n ∧ OwnB 5 wr w.heap.size o (numsTo l j ++ rowsTo (rows.map (·.2)) n) ∧ Below w.heap.size w wr)
        case atStart => exact ⟨0, by omega, rfl, by simpa [rowsTo] using HE.out.1, HE.out.2⟩
        case round => as_aux_lemma =>
          obtain ⟨i, hi, rfl, hown, hb⟩ := hrel
          have HX := Lib.hid (And.intro hi (And.intro hown hb))
          have hiM : i ≤ M := by omega
          clear hi hown hb
          by_cases hlti : i < M
          · obtain ⟨bd, rfl, hcell⟩ := (HR.out.2.1.below HX.out.2.2).at_ (k := i) (by rw [List.length_map]; omega)
            rw [List.getElem_map] at hcell
            have hcells : ∀ W, Below w.heap.size w W → W.cell? (bd.add i) = some (rows[i]'(by omega)).1 := fun W hW => by
              obtain ⟨a, e, hc⟩ := (HR.out.2.1.below hW).at_ (k := i) (by rw [List.length_map]; omega)
              obtain rfl := Option.some.inj e
              rw [hc, List.getElem_map]
            obtain ⟨B, d, hv, hrv, hxl, hxd⟩ := (HR.out.2.2.2 (rows[i]'(by omega)) (List.getElem_mem _)).below HX.out.2.2
            have hget : (rows.map (·.2)).getD i [] = (rows[i]'(by omega)).2 := by
              rw [List.getD_eq_getElem?_getD, List.getElem?_map, List.getElem?_eq_getElem (show i < rows.length by omega)]
              rfl
            rw [hv] at hcell hcells
            generalize (rows[i]'(by omega)).2 = xs at hcell hcells hrv hxl hget
            unfold maxLen at hxd
            have hlen : (numsTo l j ++ rowsTo (rows.map (·.2)) i).length + (encR xs).length ≤ 140737488355328 := by
              rw [List.length_append]
              have h1 := numsTo_length l j
              have h2 := rowsTo_length (rows.map (·.2)) i
              have h3 := encR_length xs
              omega
            have HC := Lib.hid (And.intro hrv (And.intro hget (And.intro hcells hlen)))
            clear hrv hget hcells hlen hv
            by_cases hle : xs.length ≤ 255
            · have henc : encR xs = UInt8.ofNat xs.length :: xs := by unfold encR; rw [if_pos hle]
              have HEN := Lib.hid henc
              have hdec : decide ((xs.length : Int) ≤ 255) = true := by simp; omega
              clear henc
              go_wp2_with fail
              refine (putRow_ok wr B d xs HC.out.1 hle).mono ?_
              rintro e w1 ⟨v1, rfl, ho1, hb1⟩
              rw [← HEN.out] at ho1
              obtain ⟨A2, c2, rfl, hrv2, _, _, _⟩ := ho1.slice
              have Y := Lib.hid (And.intro hrv2 hb1)
              have Yo := Lib.hid (And.intro (HX.out.2.1.below hb1) (below_then HX.out.2.2 HX.out.2.2.size hb1))
              have hcell1 := HC.out.2.2.1 w1 Yo.out.2
              clear ho1 hrv2 hb1
              go_wp2_with (at_builtin; refine wpList_appB _ rfl _ _ 22 rfl w.heap.size 5 Try.underlying22 u8info u5 (numsTo l j ++ rowsTo (rows.map (·.2)) i) rfl Yo.out.1 A2 (encR xs).length c2 (encR xs) rfl rfl Y.out.1 HC.out.2.2.2 (Yo.out.2.size) ?_)
              intro v3 w3 ho3 hg3 _
              have Z := Lib.hid (And.intro ho3 hg3)
              clear ho3 hg3
              go_wp2_with fail
              have hi := HX.out.1
              go_roundg (M - (i + 1))
              case measure => omega
              case rel => exact ⟨i + 1, by omega, by go_num, by rw [rowsTo_succ, HC.out.2.1]; simpa only [List.append_assoc] using Z.out.1, Yo.out.2.grown Z.out.2 Yo.out.2.size (fun k hk => (Yo.out.1.blk hk).1)⟩
            · have henc : encR xs = [] := by unfold encR; rw [if_neg hle]
              have HEN := Lib.hid henc
              clear henc
              have hgt : 255 < xs.length := by omega
              have hdec : decide ((xs.length : Int) ≤ 255) = false := by simp; omega
              have hcell1 := hcell
              go_wp2_with fail
              refine (putRow_no wr B d xs hgt (by unfold maxLen; omega)).mono ?_
              rintro e w1 ⟨rfl, rfl⟩
              go_wp2_with (at_builtin; refine wpList_appB _ rfl _ _ 22 rfl w.heap.size 5 Try.underlying22 u8info u5 (numsTo l j ++ rowsTo (rows.map (·.2)) i) rfl HX.out.2.1 none 0 0 [] rfl rfl (RV.nil _ _) (by have := HC.out.2.2.2; simp only [List.length_nil]; omega) (HX.out.2.2.size) ?_)
              intro v3 w3 ho3 hg3 _
              have Z := Lib.hid (And.intro ho3 hg3)
              clear ho3 hg3
              go_wp2_with fail
              have hi := HX.out.1
              go_roundg (M - (i + 1))
              case measure => omega
              case rel => exact ⟨i + 1, by omega, by go_num, by rw [rowsTo_succ, HC.out.2.1, HEN.out, List.append_nil]; simpa using Z.out.1, HX.out.2.2.grown Z.out.2 HX.out.2.2.size (fun k hk => (HX.out.2.1.blk hk).1)⟩
          · have hiM2 : i = M := by omega
            subst hiM2
            have hlen : (numsTo l j ++ rowsTo (rows.map (·.2)) i).length ≤ 140737488355328 := by
              rw [List.length_append]
              have h1 := numsTo_length l j
              have h2 := rowsTo_length (rows.map (·.2)) i
              omega
            obtain ⟨all, hall⟩ : ∃ all, numsTo l j ++ rowsTo (rows.map (·.2)) i = all := ⟨_, rfl⟩
            have hown := HX.out.2.1
            rw [hall] at hown hlen
            obtain ⟨A3, c3, hv3, hrv3, _, _, _⟩ := hown.slice
            have HE2 := Lib.hid (And.intro hrv3 (And.intro HX.out.2.2 (And.intro hlen hall)))
            subst hv3
            clear HX HE hrv3 hlen hall hown
            go_wp2_with fail
            refine (new_any wr A3 c3 all HE2.out.1 HE2.out.2.2.1).mono ?_
            rintro e w4 ⟨g, h, rfl, hrd, hb4, hg, hgs, hh⟩
            rw [← HE2.out.2.2.2, numsTo_from, rowsTo_from] at hrd
            have H4 := Lib.hid (And.intro hrd (below_then HE2.out.2.1 HE2.out.2.1.size hb4))
            have hg' : w.heap.size ≤ g := Nat.le_trans HE2.out.2.1.size hg
            clear hrd hb4 hg hgs hh HE2
            go_wp2_with fail
            obtain ⟨wo2, rfl⟩ : ∃ wo2 : World, wo2 = wr := ⟨_, rfl⟩
            go_loopg [14] j (fun k i2 wr => ∃ n : Nat, n + k = j ∧ i2 = .int .i64 n ∧ Rd wr g h (some (numsFrom l n k ++ rowsFrom (rows.map (·.2)) 0 i)) ∧ Below w.heap.size w wr)
            case atStart => exact ⟨0, by omega, rfl, H4.out.1, H4.out.2⟩
            case round => as_aux_lemma =>
              obtain ⟨n, hn, rfl, hrd, hb⟩ := hrel
              have hnj : n ≤ j := by omega
              by_cases hltn : n < j
              · obtain ⟨k, rfl⟩ : ∃ k, gk = k + 1 := ⟨gk - 1, by omega⟩
                rw [numsFrom_succ, List.append_assoc] at hrd
                have HX := Lib.hid (And.intro hn (And.intro hrd hb))
                clear hn hrd hb
                obtain ⟨ad, rfl⟩ : ∃ ad, A = some ad := by
                  obtain ⟨ad, e, _⟩ := (HR.out.1.below HX.out.2.2).at_ (k := n) (by rw [List.length_map]; omega)
                  exact ⟨ad, e⟩
                have hcells : ∀ W, Below w.heap.size w W → W.cell? (ad.add n) = some (.int .u64 ((l[n]'(by omega) : Nat) : Int)) := fun W hW => by
                  obtain ⟨a, e, hc⟩ := (HR.out.1.below hW).at_ (k := n) (by rw [List.length_map]; omega)
                  obtain rfl := Option.some.inj e
                  rw [hc, List.getElem_map]
                have hnum := numAt_eq (show n < l.length by omega)
                have hx64 := HR.out.2.2.1 (l[n]'(by omega)) (List.getElem_mem _)
                have hlv := leval_encN l n (getD_lt (show n < l.length by omega) HR.out.2.2.1)
                have hel := encN_length l n
                generalize (l[n]'(by omega)) = x at hcells hnum hx64
                have hsz := wrap_sz n
                have hs1 := szOf_pos n
                have hs8 := szOf_le n
                generalize hszv : szOf n = m at hnum hsz hs1 hs8 hel
                have HC := Lib.hid (And.intro hcells (And.intro hlv (And.intro hel (And.intro hszv hx64))))
                clear hcells hlv hel hszv hx64
                go_wp2_with fail
                refine (take_ok (s := m) HX.out.2.1 (by rw [← HC.out.2.2.2.1]; exact szOf_isSz n) (by rw [List.length_append, HC.out.2.2.1]; omega)).mono ?_
                rintro e w5 ⟨rfl, hrd5, hg5⟩
                have et : takeS (some (encN l n ++ (numsFrom l (n + 1) k ++ rowsFrom (rows.map (·.2)) 0 i))) m = (numAt l n, 0, some (numsFrom l (n + 1) k ++ rowsFrom (rows.map (·.2)) 0 i)) := by
                  have h1 : ¬ (encN l n ++ (numsFrom l (n + 1) k ++ rowsFrom (rows.map (·.2)) 0 i)).length < m := by rw [List.length_append, HC.out.2.2.1]; omega
                  simp only [takeS, if_neg h1]
                  rw [List.take_left' HC.out.2.2.1, List.drop_left' HC.out.2.2.1, HC.out.2.1]
                rw [et] at hrd5 ⊢
                have hb5 : Below w.heap.size w w5 := below_grown HX.out.2.2 hg5 HX.out.2.2.size hg'
                have hcell5 := HC.out.1 w5 hb5
                have Y := Lib.hid (And.intro hrd5 hb5)
                clear hrd5 hg5 hb5 et
                go_wp2_with fail
                have hn := HX.out.1
                go_roundg k
                case measure => omega
                case rel => exact ⟨n + 1, by omega, by go_num, Y.out.1, Y.out.2⟩
              · have hnj2 : n = j := by omega
                obtain rfl : gk = 0 := by omega
                have e0 : numsFrom l n 0 = [] := rfl
                rw [e0, List.nil_append] at hrd
                have HF := Lib.hid (And.intro hrd hb)
                clear hrd hb hn H4
                subst hnj2
                go_wp2_with fail
                obtain ⟨wo3, rfl⟩ : ∃ wo3 : World, wo3 = wr := ⟨_, rfl⟩
                go_loopg [18] i (fun k i2 wr => ∃ q : Nat, q + k = i ∧ i2 = .int .i64 q ∧ Rd wr g h (some (rowsFrom (rows.map (·.2)) q k)) ∧ Below w.heap.size w wr)
                case atStart => exact ⟨0, by omega, rfl, HF.out.1, HF.out.2⟩
                case round => as_aux_lemma =>
                  obtain ⟨q, hq, rfl, hrd, hb⟩ := hrel
                  have hqi : q ≤ i := by omega
                  by_cases hltq : q < i
                  · obtain ⟨k, rfl⟩ : ∃ k, gk = k + 1 := ⟨gk - 1, by omega⟩
                    rw [rowsFrom_succ] at hrd
                    obtain ⟨bd, rfl⟩ : ∃ bd, A1 = some bd := by
                      obtain ⟨bd, e, _⟩ := (HR.out.2.1.below hb).at_ (k := q) (by rw [List.length_map]; omega)
                      exact ⟨bd, e⟩
                    have hql : q < rows.length := by omega
                    have hcells : ∀ W, Below w.heap.size w W → W.cell? (bd.add q) = some (rows[q]'hql).1 := fun W hW => by
                      obtain ⟨a, e, hc⟩ := (HR.out.2.1.below hW).at_ (k := q) (by rw [List.length_map]; omega)
                      obtain rfl := Option.some.inj e
                      rw [hc, List.getElem_map]
                    obtain ⟨B, d, hv, hrv, hxl, hxd⟩ := HR.out.2.2.2 (rows[q]'hql) (List.getElem_mem _)
                    have hget : (rows.map (·.2)).getD q [] = (rows[q]'hql).2 := by
                      rw [List.getD_eq_getElem?_getD, List.getElem?_map, List.getElem?_eq_getElem (show q < rows.length by omega)]
                      rfl
                    rw [hv] at hcells
                    rw [hget] at hrd
                    generalize (rows[q]'hql).2 = xs at hcells hrv hxl hrd hget
                    unfold maxLen at hxd
                    have HX := Lib.hid (And.intro hq (And.intro hrd (And.intro hb (And.intro hcells hrv))))
                    have hcell := hcells _ hb
                    clear hq hrd hb hcells hrv hget hv
                    by_cases hle : xs.length ≤ 255
                    · have hrow : rowS (some (encR xs ++ rowsFrom (rows.map (·.2)) (q + 1) k)) = (xs, 0, some (rowsFrom (rows.map (·.2)) (q + 1) k)) := by
                        have e1 : encR xs = UInt8.ofNat xs.length :: xs := by unfold encR; rw [if_pos hle]
                        have e2 : (UInt8.ofNat xs.length).toNat = xs.length := by rw [UInt8.toNat_ofNat']; omega
                        rw [e1, List.cons_append]
                        simp only [rowS, e2]
                        rw [if_neg (by rw [List.length_append]; omega), List.take_left, List.drop_left]
                      have HRW := Lib.hid hrow
                      clear hrow
                      go_wp2_with fail
                      refine (row_any HX.out.2.1).mono ?_
                      rintro e w5 ⟨v5, rfl, ho5, hrd5, hg5⟩
                      rw [HRW.out] at ho5 hrd5 ⊢
                      have hb5 : Below w.heap.size w w5 := below_grown HX.out.2.2.1 hg5 HX.out.2.2.1.size hg'
                      have hcell5 := HX.out.2.2.2.1 w5 hb5
                      obtain ⟨A6, c6, rfl, hr6, _, _, _⟩ := ho5.slice
                      have Y := Lib.hid (And.intro hrd5 (And.intro hb5 hr6))
                      clear hrd5 hg5 hb5 hr6 ho5
                      go_wp2_with fail
                      refine (same_any A6 B c6 d xs xs w5 Y.out.2.2 (HX.out.2.2.2.2.below Y.out.2.1) (by unfold maxLen; omega) (by unfold maxLen; omega)).mono ?_
                      rintro e w6 ⟨rfl, hd6⟩
                      rw [decide_eq_true rfl]
                      have Z := Lib.hid hd6
                      clear hd6
                      go_wp2_with fail
                      have hq := HX.out.1
                      go_roundg k
                      case measure => omega
                      case rel => exact ⟨q + 1, by omega, by go_num, Y.out.1.below (Z.out.below _), Y.out.2.1.trans (Z.out.below _)⟩
                    · have hgt : 255 < xs.length := by omega
                      have henc : encR xs = [] := by unfold encR; rw [if_neg hle]
                      have HEN := Lib.hid henc
                      clear henc
                      go_wp2_with fail
                      have hq := HX.out.1
                      have hrd := HX.out.2.1
                      rw [HEN.out, List.nil_append] at hrd
                      have HRD := Lib.hid hrd
                      clear hrd
                      go_roundg k
                      case measure => omega
                      case rel => exact ⟨q + 1, by omega, by go_num, HRD.out, HX.out.2.2.1⟩
                  · have hqi2 : q = i := by omega
                    obtain rfl : gk = 0 := by omega
                    have e0 : rowsFrom (rows.map (·.2)) q 0 = [] := rfl
                    rw [e0] at hrd
                    have HZ := Lib.hid (And.intro hrd hb)
                    clear hrd hb hq HF
                    subst hqi2
                    go_wp2_with (first
                      | (go_at_call 14; refine (left_any HZ.out.1).mono ?_; rintro e w6 ⟨rfl, rfl⟩; simp only [leftS, List.length_nil])
                      | (go_at_call 18; refine (works_any _).mono ?_; rintro e w7 ⟨rfl, hb7⟩; have H7 := Lib.hid hb7; clear hb7))
                    go_ret
                    exact ⟨rfl, below_then HZ.out.2 HZ.out.2.size H7.out⟩

theorem walkEndsBack (w : World) (A : Option Addr) (c : Nat) (zs : List Int) (hr : RV w A (zs.map (Value.int .u64))) (hw : ∀ n ∈ zs, (Lit.int .u64 n).wf = true) (hR : zs.length * 8 ≤ 140737488351232)
    (A1 : Option Addr) (c1 : Nat) (rows : List (Value × List UInt8)) (hr1 : RV w A1 (rows.map (·.1))) (hw1 : ∀ r ∈ rows, RowAt w r) (hR1 : rows.length * 24 ≤ 140737488351232) :
    Calls Try.prog 7 #[.slice A zs.length c, .slice A1 rows.length c1] w fun e w' => e = .returned (.bool true) ∧ Below w.heap.size w w' := by
  obtain ⟨l, rfl, hl⟩ := nats_of_wf zs hw
  rw [List.length_map] at hR ⊢
  rw [List.map_map] at hr
  have hN : min l.length 40 ≤ l.length ∧ min l.length 40 ≤ 40 ∧ (l.length ≤ min l.length 40 ∨ (40 ≤ min l.length 40 ∧ 40 < l.length)) := by omega
  have hM : min rows.length 40 ≤ rows.length ∧ min rows.length 40 ≤ 40 ∧ (rows.length ≤ min rows.length 40 ∨ (40 ≤ min rows.length 40 ∧ 40 < rows.length)) := by omega
  exact backWalk w A c l hr hl hR A1 c1 rows hr1 hw1 hR1 _ _ hN.1 hN.2.1 hN.2.2 hM.1 hM.2.1 hM.2.2
end Go.Proofs.Ytljnhcoeeloadaa
