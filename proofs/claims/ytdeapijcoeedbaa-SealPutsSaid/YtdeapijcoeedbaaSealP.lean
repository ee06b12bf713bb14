/- Layer 2: contracts of package seal: isSize, Body, Noughts, Blank, Put. -/
import Derived.Test.YtdeapijcoeedbaaProg
import Derived.Test.YtdeapijcoeedbaaSealS
import Derived.Test.YtdeapijcoeedbaaPutE
import Derived.Lib.BitFns
set_option linter.unusedVariables false
set_option linter.unusedSimpArgs false
namespace Go.Proofs.Ytdeapijcoeedbaa
open Go.RowKit

theorem pisSize_yes (n : Int) (w : World) (h : 128 ≤ n) (h2 : n ≤ 256) : Calls Try.prog 29 #[.int .i64 n] w fun e w' => e = .returned (.bool true) ∧ w = w' := by
  go_enter Try.func29, Try.ntmps29
  go_wp2
  go_ret
  exact ⟨rfl, rfl⟩
theorem pisSize_no (n : Int) (w : World) (h : ¬ (128 ≤ n ∧ n ≤ 256)) : Calls Try.prog 29 #[.int .i64 n] w fun e w' => e = .returned (.bool false) ∧ w = w' := by
  have hd : n < 128 ∨ decide (n ≤ 256) = false := by
    rcases (show n < 128 ∨ (128 ≤ n ∧ 256 < n) by omega) with h | ⟨h, h2⟩
    · exact .inl h
    · exact .inr (by simp; omega)
  rcases hd with h | h2
  · go_enter Try.func29, Try.ntmps29
    go_wp2
    go_ret
    exact ⟨rfl, rfl⟩
  · have h1 : 128 ≤ n := by simp at h2; omega
    go_enter Try.func29, Try.ntmps29
    go_wp2
    go_ret
    exact ⟨rfl, rfl⟩
theorem body_any (n : Int) (w : World) : Calls Try.prog 14 #[.int .i64 n] w fun e w' => e = .returned (.int .i64 (bodyS n : Nat)) ∧ w = w' := by
  by_cases h : 128 ≤ n ∧ n ≤ 256
  · have hb : bodyS n = n.toNat - 5 := by unfold bodyS; rw [if_pos h]
    have he : (n - 5 : Int) = ((n.toNat - 5 : Nat) : Int) := by omega
    have HB := Lib.hid (And.intro hb he)
    clear hb he
    obtain ⟨h1, h2⟩ := h
    go_enter Try.func14, Try.ntmps14
    go_wp2_with (go_at_call 29; refine (pisSize_yes _ _ h1 h2).mono ?_; rintro e w' ⟨rfl, rfl⟩)
    go_ret
    exact ⟨ret_int (by rw [HB.out.1]; exact HB.out.2), rfl⟩
  · have hb : bodyS n = 0 := by unfold bodyS; rw [if_neg h]
    have HB := Lib.hid hb
    have H := Lib.hid h
    clear hb h
    go_enter Try.func14, Try.ntmps14
    go_wp2_with (go_at_call 29; refine (pisSize_no _ _ H.out).mono ?_; rintro e w' ⟨rfl, rfl⟩)
    go_ret
    exact ⟨by rw [HB.out]; rfl, rfl⟩

/-- The body of OnesCount8, its table by the library's name. -/
def onesCode : Code :=
  (Code.region 0 #[{ dst := some 2, op := Op.assign (Operand.const (Value.int IntKind.i64 0)), type := 3, pos := "bits.go:125", after := #[], guard := none }] false).seq
    ((Code.region 1
      #[{ dst := some 3, op := Op.move (Operand.tmp 0), type := 5, pos := "bits.go:126", after := #[], guard := none },
        { dst := some 4, op := Op.index 9 (Operand.const (Value.string Lib.pop8tab)) (Operand.tmp 3), type := 5, pos := "bits.go:126", after := #[{ on := 0, ground := Ground.data }], guard := none },
        { dst := some 5, op := Op.convert 5 3 (Operand.tmp 4), type := 3, pos := "bits.go:126", after := #[{ on := 1, ground := Ground.data }], guard := none },
        { dst := some 2, op := Op.assign (Operand.tmp 5), type := 3, pos := "bits.go:126",
          after := #[{ on := 2, ground := Ground.data }, { on := 0, ground := Ground.phase }, { on := 1, ground := Ground.phase }, { on := 2, ground := Ground.phase }], guard := none }] false).seq Code.ret)
theorem ones_body : Try.f34.body = some onesCode := by kernel_rfl
set_option maxRecDepth 100000 in
theorem ones_any (x : Int) (w : World) (h0 : 0 ≤ x) (h1 : x ≤ 255) :
    Calls Try.prog 34 #[.int .u8 x] w fun e w' => e = .returned (.int .i64 (Lib.onesCount x.toNat)) ∧ w = w' := by
  have hw : wrap64 (Lib.pop8 x) = (Lib.onesCount x.toNat : Int) := by
    unfold wrap64
    exact Lib.pop8_int x h0 h1
  have HW := Lib.hid hw
  clear hw
  refine calls_of_wp (c := onesCode) Try.func34 ones_body ?_
  simp only [Try.ntmps34, List.size_toArray, List.length_cons, List.length_nil, Nat.reduceAdd, Nat.reduceSub, Array.replicate_succ, Array.replicate_zero, List.push_toArray, List.append_toArray, List.nil_append, List.cons_append]
  unfold onesCode
  go_wp2
  go_ret
  exact ⟨ret_int HW.out, rfl⟩
theorem zeros_ones : ∀ n : Fin 256, Lib.onesCount (255 - n.val) = zerosTo n.val 8 := by decide +kernel
theorem xor_not : ∀ n : Fin 256, bits .xor .u8 IntKind.u8.max (n.val : Int) = 255 - (n.val : Int) := by decide +kernel
theorem zeros_eq (b : UInt8) : (Lib.onesCount (255 - (b.toNat : Int)).toNat : Int) = (zeros b : Int) := by
  have h := zeros_ones ⟨b.toNat, b.toNat_lt⟩
  have e : (255 - (b.toNat : Int)).toNat = 255 - b.toNat := by omega
  rw [e]
  unfold zeros
  exact congrArg (fun n : Nat => (n : Int)) h
theorem noughts_take {l : List UInt8} {j : Nat} (h : j < l.length) : noughts (l.take (j + 1)) = noughts (l.take j) + zeros l[j] := by
  rw [List.take_add_one, List.getElem?_eq_getElem h, noughts_append]
  rfl

set_option maxHeartbeats 400000 in
theorem noughts_any (A : Option Addr) (c : Nat) (xs : List UInt8) (w : World) (hr : RV w A (bv xs)) (hx : xs.length ≤ 140737488355328) :
    Calls Try.prog 20 #[.slice A xs.length c] w fun e w' => e = .returned (.int .i64 (noughts xs : Nat)) ∧ w = w' := by
  have HR := Lib.hid hr
  clear hr
  go_enter Try.func20, Try.ntmps20
  go_wp2_with fail
  go_loopg [3, 8] xs.length (fun k n i wr => ∃ j : Nat, j + k = xs.length ∧ n = .int .i64 (noughts (xs.take j) : Nat) ∧ i = .int .i64 j ∧ wr = w)
  case atStart => exact ⟨0, by omega, rfl, rfl, rfl⟩
  case round =>
    obtain ⟨j, hj, rfl, rfl, rfl⟩ := hrel
    have HJ := Lib.hid hj
    clear hj
    by_cases hlt : j < xs.length
    · obtain ⟨ad, rfl, hcell⟩ := HR.out.at_ (k := j) (by rw [bv_length]; omega)
      have hbj : (bv xs)[j]'(by rw [bv_length]; omega) = .int .u8 (xs[j].toNat : Int) := by simp [bv]
      rw [hbj] at hcell
      have hnt := noughts_take hlt
      have hz := zeros_eq xs[j]
      have hz8 := zeros_le xs[j]
      have hn := noughts_le (xs.take j)
      have hb256 := xs[j].toNat_lt
      rw [List.length_take] at hn
      have hn2 : noughts (xs.take j) ≤ 1125899906842624 := by omega
      generalize noughts (xs.take j) = m at hnt hn2
      generalize xs[j] = b at hcell hnt hz hz8 hb256
      generalize zeros b = zb at hnt hz hz8
      generalize hbx : b.toNat = x at hcell hz hb256
      have hx255 : (x : Int) ≤ 255 := by omega
      have hxor := xor_not ⟨x, by omega⟩
      dsimp only at hxor
      have HX := Lib.hid (And.intro hnt hz)
      clear hnt hz hn hbj hbx
      go_wp2_with (go_at_call 34; refine (ones_any _ _ (by omega) (by omega)).mono ?_; rintro e w' ⟨rfl, rfl⟩; rw [HX.out.2])
      have hzb : (zb : Int) ≤ 8 := by omega
      go_wp2_with fail
      go_roundg (xs.length - (j + 1))
      case measure => have := HJ.out; omega
      case rel => exact ⟨j + 1, by have := HJ.out; omega, by rw [HX.out.1]; go_num, by go_num, rfl⟩
    · have hjx : j = xs.length := by have := HJ.out; omega
      have hfin : noughts (xs.take j) = noughts xs := by rw [hjx, List.take_length]
      have HF := Lib.hid hfin
      clear hfin hjx
      go_wp2_with fail
      go_ret
      exact ⟨by rw [← HF.out]; rfl, rfl⟩

theorem blank_take {l : List UInt8} {j : Nat} (h : j < l.length) (hb : blankS (l.take j)) (he : l[j] = 255) : blankS (l.take (j + 1)) := by
  rw [List.take_add_one, List.getElem?_eq_getElem h]
  intro x hx
  rcases List.mem_append.1 hx with hx | hx
  · exact hb x hx
  · simp at hx
    rw [hx, he]

set_option maxHeartbeats 400000 in
theorem blank_any (A : Option Addr) (c : Nat) (xs : List UInt8) (w : World) (hr : RV w A (bv xs)) (hx : xs.length ≤ maxLen) :
    Calls Try.prog 22 #[.slice A xs.length c] w fun e w' => e = .returned (.bool (decide (blankS xs))) ∧ w = w' := by
  unfold maxLen at hx
  have HR := Lib.hid hr
  clear hr
  go_enter Try.func22, Try.ntmps22
  go_wp2_with fail
  go_loopg [7] xs.length (fun k i wr => ∃ j : Nat, j + k = xs.length ∧ i = .int .i64 j ∧ wr = w ∧ blankS (xs.take j))
  case atStart => exact ⟨0, by omega, rfl, rfl, fun x hx => by cases hx⟩
  case round =>
    obtain ⟨j, hj, rfl, rfl, hb⟩ := hrel
    have HJ := Lib.hid (And.intro hj hb)
    clear hj hb
    by_cases hlt : j < xs.length
    · obtain ⟨ad, rfl, hcell⟩ := HR.out.at_ (k := j) (by rw [bv_length]; omega)
      have hbj : (bv xs)[j]'(by rw [bv_length]; omega) = .int .u8 (xs[j].toNat : Int) := by simp [bv]
      rw [hbj] at hcell
      by_cases he : xs[j] = 255
      · have hn := blank_take hlt HJ.out.2 he
        have h255 : ((xs[j].toNat : Int) != 255) = false := by rw [he]; rfl
        generalize xs[j].toNat = x at hcell h255
        have HN := Lib.hid hn
        clear hn hbj he
        go_wp2_with fail
        go_roundg (xs.length - (j + 1))
        case measure => have := HJ.out.1; omega
        case rel => exact ⟨j + 1, by have := HJ.out.1; omega, by go_num, rfl, HN.out⟩
      · have hn : ¬ blankS xs := fun h => he (h _ (List.getElem_mem hlt))
        have h255 : ((xs[j].toNat : Int) != 255) = true := by
          have : xs[j].toNat ≠ 255 := fun h => he (UInt8.toNat.inj h)
          simp
          omega
        generalize xs[j].toNat = x at hcell h255
        have HN := Lib.hid hn
        clear hn hbj he
        go_wp2_with fail
        go_ret
        exact ⟨ret_bool (decide_eq_false HN.out).symm, rfl⟩
    · have hjx : j = xs.length := by have := HJ.out.1; omega
      have hfin : blankS xs := by have := HJ.out.2; rwa [hjx, List.take_length] at this
      have HF := Lib.hid hfin
      clear hfin hjx
      go_wp2_with fail
      go_ret
      exact ⟨ret_bool (decide_eq_true HF.out).symm, rfl⟩

/-! ### copy into a row of bytes -/
theorem wpList_copyB {P : Program} {w : World} {ops : Array Oper} {rest : List Oper} {o : Oper} {a : Act} {Q : Exit → Act → World → Prop} (hgd : o.guard = none) (d s : Operand) (T : TypeId)
    (ho : o.op = .call { callee := .builtin .copy, args := #[d, s], argTypes := #[T, T] }) (e : TypeId) (hu : P.underlying T = some (.slice e)) (hinfo : (P.info? e).map (fun i => (i.zero, i.size, i.bytes)) = some (some (.int .u8 0), 1, 1))
    (g off dLen dCap m c : Nat) (A : Option Addr) (hd : a.eval d = .slice (some ⟨g, off, none⟩) dLen dCap) (hs : a.eval s = .slice A m c) (full : List UInt8) (hrow : RowB e w g full) (ys : List UInt8) (hm : ys.length = m) (hr : RV w A (bv ys))
    (hle : m ≤ dLen) (hfit : off + m ≤ full.length) (B : Nat) (w0 : World) (hb : Below B w0 w) (hBg : B ≤ g)
    (h : ∀ w', RowB e w' g (full.take off ++ (ys ++ full.drop (off + m))) → Below B w0 w' → wpList P ops Q rest (a.put o.dst (goInt m)) w') : wpList P ops Q (o :: rest) a w := by
  obtain ⟨i, hi, _, hz1, _⟩ := app_info hinfo
  refine wpList_copy_splice hgd d s T T ho e hu (by rw [hi]; simp [hz1]) (some ⟨g, off, none⟩) A dLen dCap m c hd hs g off (bv full) e hrow (bv ys) (by rw [bv_length, hm]; exact (Nat.min_eq_left hle).symm) ?_ (by rw [bv_length, bv_length, hm]; exact hfit) (bv_oneCell ys) B w0 hb hBg ?_
  · intro hp
    obtain ⟨ad, hA, hc⟩ := hr hp
    exact ⟨rfl, ad, hA, hc⟩
  · intro w' hg' hb'
    rw [bv_length, hm]
    refine h w' ?_ hb'
    have h1 : w'.heap[g]? = some (.cells (splice (bv full) off (bv ys)).toArray e (0, 0)) := hg'.out
    unfold RowB
    rw [h1, bv_append, bv_append, bv_take, bv_drop]
    unfold splice
    rw [bv_length, hm]

theorem noughts_at (A : Option Addr) (n c : Nat) (xs : List UInt8) (w : World) (hn : xs.length = n) (hr : RV w A (bv xs)) (hx : n ≤ 140737488355328) :
    Calls Try.prog 20 #[.slice A n c] w fun e w' => e = .returned (.int .i64 (noughts xs : Nat)) ∧ w = w' := by
  subst hn
  exact noughts_any A c xs w hr hx
theorem blank_at (A : Option Addr) (n c : Nat) (xs : List UInt8) (w : World) (hn : xs.length = n) (hr : RV w A (bv xs)) (hx : n ≤ maxLen) :
    Calls Try.prog 22 #[.slice A n c] w fun e w' => e = .returned (.bool (decide (blankS xs))) ∧ w = w' := by
  subst hn
  exact blank_any A c xs w hr hx
theorem RowB.rvAt {e : TypeId} {w : World} {g : Nat} {full : List UInt8} (h : RowB e w g full) (k : Nat) : RV w (some ⟨g, k, none⟩) (bv (full.drop k)) := by
  have := h.rv.drop k
  rw [bv_drop]
  simpa [add_lit0] using this

/-! ### Put -/
theorem isSz2 : IsSz ((2 : Nat) : Int) := .inr (.inl rfl)
/-- What the call owns from a base on reads on where an elder block is written. -/
theorem own_rv_set {e : TypeId} {w : World} {base g i : Nat} {A : Option Addr} {c : Nat} {xs : List UInt8} (h : OwnB e w base (.slice A xs.length c) xs) (hg : g < base) (u : Value) : RV (w.setCell ⟨g, i, none⟩ u) A (bv xs) := by
  obtain ⟨A', c', he, hr, _⟩ := (h.setOther hg (i := i) u).slice
  injection he with e1
  rw [e1]
  exact hr

theorem fill_page {s : Nat} (hs : 5 ≤ s) (kind : UInt8) (L body : List UInt8) (hL : L.length = 2) (hb : body.length ≤ s - 5) :
    ∃ F2 F3 : List UInt8, ((List.replicate s (255 : UInt8)).set 2 kind).take 3 ++ (L ++ ((List.replicate s (255 : UInt8)).set 2 kind).drop 5) = F2 ∧ F2.length = s ∧
      F2.take 5 ++ (body ++ F2.drop (5 + body.length)) = F3 ∧ F3.length = s ∧ F3.drop 2 = kind :: (L ++ (body ++ List.replicate (s - 5 - body.length) 255)) := by
  obtain ⟨r, rfl⟩ : ∃ r, s = 5 + r := ⟨s - 5, by omega⟩
  have e1 : (List.replicate (5 + r) (255 : UInt8)) = [255, 255, 255, 255, 255] ++ List.replicate r 255 := by rw [← List.replicate_append_replicate]; rfl
  match L, hL with
  | [l0, l1], _ =>
    refine ⟨[255, 255, kind, l0, l1] ++ List.replicate r 255, [255, 255, kind, l0, l1] ++ (body ++ List.replicate (r - body.length) 255), ?_, ?_, ?_, ?_, ?_⟩
    · rw [e1]; rfl
    · simp; omega
    · rw [List.take_left' (by rfl), ← List.drop_drop, List.drop_left' (by rfl), List.drop_replicate]
    · simp; omega
    · have e2 : 5 + r - 5 - body.length = r - body.length := by omega
      rw [e2]
      rfl

def PutPageEnd (w : World) (r : List UInt8 × Nat) (e : Ending) (w' : World) : Prop :=
  ∃ v, e = .returned (.tuple #[v, .int .i64 (r.2 : Nat)]) ∧ OwnB 5 w' w.heap.size v r.1 ∧ Below w.heap.size w w'

set_option maxRecDepth 100000 in
set_option maxHeartbeats 2000000 in
theorem putPage_ok (w : World) (s : Nat) (kind : UInt8) (A : Option Addr) (c : Nat) (body : List UInt8) (hr : RV w A (bv body)) (hs : 128 ≤ s) (hs2 : s ≤ 256) (hk1 : 1 ≤ kind.toNat) (hk7 : kind.toNat ≤ 7) (hb : body.length ≤ s - 5) :
    Calls Try.prog 11 #[.int .i64 s, .int .u8 (kind.toNat : Int), .slice A body.length c] w (PutPageEnd w (pageS s kind body, 0)) := by
  have hmk := make_bytes (P := Try.prog) 22 5 Try.underlying22 u8info s (by omega)
  have HR := Lib.hid hr
  have hbody : bodyS s = s - 5 := by unfold bodyS; rw [if_pos (by omega)]; simp
  have HBD := Lib.hid hbody
  clear hr hbody
  generalize hkn : kind.toNat = kn at hk1 hk7 ⊢
  have HK := Lib.hid hkn
  clear hkn
  go_enter Try.func11, Try.ntmps11
  go_wp2_with (first
    | (go_at_call 29; refine (pisSize_yes _ _ (by omega) (by omega)).mono ?_; rintro e w' ⟨rfl, rfl⟩)
    | (go_at_call 14; refine (body_any _ _).mono ?_; rintro e w' ⟨rfl, rfl⟩; rw [HBD.out]))
  go_loopg [36] s (fun k i wr => ∃ (j : Nat) (full : List UInt8), j + k = s ∧ i = .int .i64 j ∧ RowB 5 wr w.heap.size full ∧ full.length = s ∧ full.take j = (List.replicate s (255 : UInt8)).take j ∧ Below w.heap.size w wr)
  case atStart => exact ⟨0, List.replicate s 0, by omega, rfl, RowB.made w _ s, by simp, rfl, (Below.refl _ _).alloc (Nat.le_refl _) _⟩
  case round =>
    obtain ⟨j, full, hj, rfl, hrow, hl, ht, hbw⟩ := hrel
    have HX := Lib.hid (show j + gk = s ∧ full.length = s ∧ full.take j = (List.replicate s (255 : UInt8)).take j ∧ RowB 5 wr w.heap.size full ∧ Below w.heap.size w wr from ⟨hj, hl, ht, hrow, hbw⟩)
    by_cases hlt : j < s
    · have hf := hrow.frozen j
      have hcur : wr.cell? ⟨w.heap.size, j, none⟩ = some (.int .u8 ((full[j]'(by omega)).toNat : Int)) := hrow.cell (List.getElem?_eq_getElem (by omega))
      generalize (full[j]'(by omega)).toNat = old at hcur
      clear hj hl ht hrow hbw
      go_wp2_with fail
      obtain ⟨hj, hl, ht, hrow, hbw⟩ := HX.out
      go_roundg (s - (j + 1))
      case measure => omega
      case rel => exact ⟨j + 1, full.set j 255, by omega, by go_num, hrow.set' j rfl, by simpa using hl, set_take ht (by omega) (by simp [hlt]), hbw.setCell (Nat.le_refl _) _⟩
    · obtain rfl : j = s := by omega
      rw [List.take_of_length_le (by omega), List.take_of_length_le (by simp)] at ht
      subst ht
      have HY := Lib.hid (And.intro hrow hbw)
      have hge : ¬ (j : Int) < j := by omega
      have hsz := hbw.size
      have hlen64 : (body.length : Int) ≤ 251 := by omega
      have hgg : w.heap.size < wr.heap.size := hrow.lt
      clear hj hl hrow hbw HX
      go_wp2_with fail
      refine (put_ok body.length 2 wr isSz2 (by omega) (by omega)).mono ?_
      rintro e w1 ⟨v1, rfl, ho1, hb1⟩
      have hrow1 := HY.out.1.belowAll hb1
      have hf2 := hrow1.frozen 2
      have hc2 : w1.cell? ⟨w.heap.size, 2, none⟩ = some (.int .u8 255) := by
        have := hrow1.cell (j := 2) (b := 255) (by rw [List.getElem?_replicate]; simp; omega)
        simpa using this
      obtain ⟨A1, c1, rfl, hrv1, _, _, _⟩ := ho1.slice
      have hd2 := digs_length body.length 2
      generalize hL : digs body.length 2 = L at *
      have H1 := Lib.hid (And.intro hrow1 (And.intro hrv1 (And.intro (below_then HY.out.2 HY.out.2.size hb1) (And.intro hL ho1))))
      clear hrow1 hrv1 hb1 hL ho1
      have hL2 := Lib.hid hd2
      rw [hd2]
      clear hd2
      have hrowA := (H1.out.1.set' 2 (n := (kn : Int)) (b := kind) (by rw [HK.out]))
      have hrvA := own_rv_set (i := 2) H1.out.2.2.2.2 hgg (.int .u8 (kn : Int))
      have hrvB := ((HR.out.below H1.out.2.2.1)).setCell (p := ⟨w.heap.size, 2, none⟩) (fun ad e hn => Nat.ne_of_lt (HR.out.lt e hn)) (.int .u8 (kn : Int))
      have hbA := H1.out.2.2.1.setCell (p := ⟨w.heap.size, 2, none⟩) (Nat.le_refl _) (.int .u8 (kn : Int))
      have hlenA : ((List.replicate j (255 : UInt8)).set 2 kind).length = j := by simp
      obtain ⟨F2, F3, hF2, hF2l, hF3, hF3l, hF3d⟩ := fill_page (s := j) (by omega) kind L body hL2.out hb
      have HA := Lib.hid (And.intro hrowA (And.intro hrvA (And.intro hrvB (And.intro hbA (And.intro hlenA (And.intro hF2 (And.intro hF3 hF3d)))))))
      have HFl := Lib.hid (And.intro hF2l hF3l)
      clear hrowA hrvA hrvB hbA hlenA hF2 hF3 hF3d hF2l hF3l
      have hLl : L.length = 2 := hL2.out
      go_wp2_with (with_reducible refine wpList_copyB rfl (.tmp 54) (.tmp 55) 22 rfl 5 Try.underlying22 u8info w.heap.size 3 _ _ 2 c1 A1 rfl rfl _ HA.out.1 L hL2.out HA.out.2.1 ?_ ?_ w.heap.size w HA.out.2.2.2.1 (Nat.le_refl _) ?_)
      · omega
      · simp
        omega
      intro w2 hrow2 hb2
      rw [HA.out.2.2.2.2.2.1] at hrow2
      have H2 := Lib.hid (And.intro hrow2 (And.intro (HR.out.below hb2) hb2))
      clear hrow2 hb2
      go_wp2_with (with_reducible refine wpList_copyB rfl (.tmp 58) (.tmp 59) 22 rfl 5 Try.underlying22 u8info w.heap.size 5 _ _ body.length c A rfl rfl _ H2.out.1 body rfl H2.out.2.1 ?_ ?_ w.heap.size w H2.out.2.2 (Nat.le_refl _) ?_)
      · omega
      · have := HFl.out.1
        omega
      intro w3 hrow3 hb3
      rw [HA.out.2.2.2.2.2.2.1] at hrow3
      have hsz3 : w.heap.size < w3.heap.size := hrow3.lt
      have htail : F3.drop 2 = tailS j kind body := by rw [HA.out.2.2.2.2.2.2.2, tailS, H1.out.2.2.2.1]
      have hrv3 := hrow3.rvAt 2
      rw [htail] at hrv3
      have htl : (tailS j kind body).length = j - 2 := by rw [← htail, List.length_drop, HFl.out.2]
      have hN := noughts_le (tailS j kind body)
      have H3 := Lib.hid (And.intro hrow3 (And.intro hrv3 (And.intro hb3 (And.intro htail htl))))
      have hN2 : noughts (tailS j kind body) ≤ 2048 := by omega
      clear hrow3 hrv3 hb3 htail htl hN
      generalize hNN : noughts (tailS j kind body) = N at hN2
      have HN := Lib.hid hNN
      clear hNN
      go_wp2_with fail
      refine (noughts_at _ (j - 2) _ (tailS j kind body) w3 H3.out.2.2.2.2 H3.out.2.1 (by omega)).mono ?_
      rintro e w' ⟨rfl, rfl⟩
      rw [HN.out]
      go_wp2_with fail
      refine (put_ok N 2 w3 isSz2 (by omega) (by omega)).mono ?_
      rintro e w4 ⟨v4, rfl, ho4, hb4⟩
      obtain ⟨A4, c4, rfl, hrv4, _, _, _⟩ := ho4.slice
      have hd4 := digs_length N 2
      generalize hC : digs N 2 = C at *
      have H4 := Lib.hid (And.intro (H3.out.1.belowAll hb4) (And.intro hrv4 (And.intro (below_then H3.out.2.2.1 H3.out.2.2.1.size hb4) hC)))
      have hC2 := Lib.hid hd4
      rw [hd4]
      clear hrv4 hb4 hC hd4 ho4
      go_wp2_with (with_reducible refine wpList_copyB rfl (.tmp 69) (.tmp 70) 22 rfl 5 Try.underlying22 u8info w.heap.size 0 _ _ 2 c4 A4 rfl rfl _ H4.out.1 C hC2.out H4.out.2.1 ?_ ?_ w.heap.size w H4.out.2.2.1 (Nat.le_refl _) ?_)
      · omega
      · have := HFl.out.2
        omega
      intro w5 hrow5 hb5
      have hpage : C ++ F3.drop 2 = pageS j kind body := by
        rw [H3.out.2.2.2.1, ← H4.out.2.2.2, pageS, HN.out]
      rw [hpage] at hrow5
      have hpl : (pageS j kind body).length = j := by
        rw [← hpage, List.length_append, hC2.out, List.length_drop, HFl.out.2]
        omega
      have H5 := Lib.hid (And.intro hrow5 (And.intro hb5 hpl))
      clear hrow5 hb5 hpage hpl
      go_wp2_with fail
      go_ret2
      have hw := OwnB.whole (base := w.heap.size) (Nat.le_refl _) H5.out.1 (by rw [H5.out.2.2]; unfold maxLen; omega)
      rw [H5.out.2.2] at hw
      exact ⟨_, rfl, hw, H5.out.2.1⟩

theorem putPage_bad (w : World) (s : Int) (kind : UInt8) (A : Option Addr) (c : Nat) (body : List UInt8) (h : ¬ (128 ≤ s ∧ s ≤ 256) ∨ kind.toNat < 1 ∨ 7 < kind.toNat) :
    Calls Try.prog 11 #[.int .i64 s, .int .u8 (kind.toNat : Int), .slice A body.length c] w fun e w' => e = .returned (.tuple #[.slice none 0 0, .int .i64 2]) ∧ w = w' := by
  by_cases hs : 128 ≤ s ∧ s ≤ 256
  · have hk : kind.toNat < 1 ∨ 7 < kind.toNat := by
      rcases h with h | h
      · exact absurd hs h
      · exact h
    obtain ⟨h1, h2⟩ := hs
    clear h
    generalize kind.toNat = kn at hk ⊢
    have hk' : decide ((kn : Int) < 1) = true ∨ (decide ((kn : Int) < 1) = false ∧ decide (7 < (kn : Int)) = true) := by
      by_cases hk1 : kn < 1
      · left; simp; omega
      · right; simp; omega
    rcases hk' with hk' | ⟨hk', hk2⟩
    all_goals
      go_enter Try.func11, Try.ntmps11
      go_wp2_with (go_at_call 29; refine (pisSize_yes _ _ h1 h2).mono ?_; rintro e w' ⟨rfl, rfl⟩)
      go_ret2
      exact ⟨rfl, rfl⟩
  · have H := Lib.hid hs
    clear hs h
    go_enter Try.func11, Try.ntmps11
    go_wp2_with (go_at_call 29; refine (pisSize_no _ _ H.out).mono ?_; rintro e w' ⟨rfl, rfl⟩)
    go_ret2
    exact ⟨rfl, rfl⟩
theorem putPage_long (w : World) (s : Int) (kind : UInt8) (A : Option Addr) (c : Nat) (body : List UInt8) (h1 : 128 ≤ s) (h2 : s ≤ 256) (hk1 : 1 ≤ kind.toNat) (hk7 : kind.toNat ≤ 7) (hb : s.toNat - 5 < body.length) (hm : body.length ≤ maxLen) :
    Calls Try.prog 11 #[.int .i64 s, .int .u8 (kind.toNat : Int), .slice A body.length c] w fun e w' => e = .returned (.tuple #[.slice none 0 0, .int .i64 3]) ∧ w = w' := by
  unfold maxLen at hm
  have hbody : bodyS s = s.toNat - 5 := by unfold bodyS; rw [if_pos ⟨h1, h2⟩]
  have HBD := Lib.hid hbody
  clear hbody
  generalize kind.toNat = kn at hk1 hk7 ⊢
  generalize hbs : s.toNat - 5 = m at hb HBD
  clear hbs
  go_enter Try.func11, Try.ntmps11
  go_wp2_with (first
    | (go_at_call 29; refine (pisSize_yes _ _ h1 h2).mono ?_; rintro e w' ⟨rfl, rfl⟩)
    | (go_at_call 14; refine (body_any _ _).mono ?_; rintro e w' ⟨rfl, rfl⟩; rw [HBD.out]))
  go_ret2
  exact ⟨rfl, rfl⟩
theorem putPage_any (w : World) (s : Int) (kind : UInt8) (A : Option Addr) (c : Nat) (body : List UInt8) (hr : RV w A (bv body)) (hm : body.length ≤ maxLen) :
    Calls Try.prog 11 #[.int .i64 s, .int .u8 (kind.toNat : Int), .slice A body.length c] w (PutPageEnd w (putPageS s kind body)) := by
  unfold putPageS
  by_cases h : ¬ (128 ≤ s ∧ s ≤ 256) ∨ kind.toNat < 1 ∨ 7 < kind.toNat
  · rw [if_pos h]
    exact (putPage_bad w s kind A c body h).mono fun e w' ⟨he, hw⟩ => ⟨_, he, OwnB.nil _ _ _, hw ▸ Below.refl _ _⟩
  · rw [if_neg h]
    have hs : 128 ≤ s ∧ s ≤ 256 := Classical.not_not.1 (fun hn => h (.inl hn))
    have hk : 1 ≤ kind.toNat ∧ kind.toNat ≤ 7 := ⟨Nat.not_lt.1 (fun hn => h (.inr (.inl hn))), Nat.not_lt.1 (fun hn => h (.inr (.inr hn)))⟩
    by_cases hb : s.toNat - 5 < body.length
    · rw [if_pos hb]
      exact (putPage_long w s kind A c body hs.1 hs.2 hk.1 hk.2 hb hm).mono fun e w' ⟨he, hw⟩ => ⟨_, he, OwnB.nil _ _ _, hw ▸ Below.refl _ _⟩
    · rw [if_neg hb]
      obtain ⟨m, rfl⟩ : ∃ m : Nat, s = m := ⟨s.toNat, by omega⟩
      exact putPage_ok w m kind A c body hr (by omega) (by omega) hk.1 hk.2 (by simpa using Nat.not_lt.1 hb)
end Go.Proofs.Ytdeapijcoeedbaa
