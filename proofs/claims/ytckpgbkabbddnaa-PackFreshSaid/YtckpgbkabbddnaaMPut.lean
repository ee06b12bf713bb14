import Derived.Lib.ConvBytes
import Derived.Laws.IdiomStrings
import Derived.Test.YtckpgbkabbddnaaMApp
import Derived.Test.YtckpgbkabbddnaaMBase
import Derived.Test.YtckpgbkabbddnaaKeyMM
set_option linter.unusedVariables false
set_option linter.unusedSimpArgs false
/- One byte laid as a literal; what Put and Row answer. -/
namespace Go.Proofs.Ytckpgbkabbddnaa
open Go.RowKit

theorem alloc_size (w : World) (o : Obj) : (w.alloc o).heap.size = w.heap.size + 1 := by simp

def PutEnd (w : World) (xs : List UInt8) (e : Ending) (w' : World) : Prop :=
  ∃ v, e = .returned (.tuple #[v, .int .i64 0]) ∧ OwnB 5 w' w.heap.size v xs ∧ Below w.heap.size w w'

/-- One byte that was laid as a literal. -/
theorem own_lit1 (w : World) (e : TypeId) (n : Nat) (hn : n < 256) : OwnB e (w.alloc (.cells #[.int .u8 (n : Int)] e)) w.heap.size (.slice (some ⟨w.heap.size, 0, none⟩) 1 1) [UInt8.ofNat n] := by
  have h := RowB.new w e [UInt8.ofNat n]
  have e1 : (bv [UInt8.ofNat n]).toArray = #[.int .u8 (n : Int)] := by
    simp [bv]
    omega
  rw [e1] at h
  exact OwnB.whole (Nat.le_refl _) h (by simp [maxLen])

end Go.Proofs.Ytckpgbkabbddnaa

/- Contract of Row. -/
namespace Go.Proofs.Ytckpgbkabbddnaa
open Go.RowKit

/-! ### Row, Put where they refuse -/
theorem putRow_no (w : World) (A : Option Addr) (c : Nat) (xs : List UInt8) (hx : 255 < xs.length) (hm : xs.length ≤ maxLen) :
    Calls Try.prog 53 #[.slice A xs.length c] w fun e w' => e = .returned (.tuple #[.slice none 0 0, .int .i64 3]) ∧ w = w' := by
  unfold maxLen at hm
  go_enter Try.func53, Try.ntmps53
  go_wp2
  go_ret2
  exact ⟨rfl, rfl⟩

set_option maxHeartbeats 400000 in
theorem putRow_ok (w : World) (A : Option Addr) (c : Nat) (xs : List UInt8) (hr : RV w A (bv xs)) (hx : xs.length ≤ 255) :
    Calls Try.prog 53 #[.slice A xs.length c] w (PutEnd w (UInt8.ofNat xs.length :: xs)) := by
  have HR := Lib.hid hr
  clear hr
  go_enter Try.func53, Try.ntmps53
  go_wp2_with (at_builtin; refine wpList_appB _ rfl _ _ 28 rfl w.heap.size 5 Try.underlying28 u8info (.slice (some ⟨w.heap.size, 0, none⟩) 1 1) [UInt8.ofNat xs.length] rfl (own_lit1 w _ _ (by omega)) A xs.length c xs rfl rfl (HR.out.alloc _) ?_ ?_ ?_)
  · simp
    omega
  · simp
  · intro v w3 hown hg3 _
    have HX := Lib.hid (And.intro hown hg3)
    clear hown hg3
    go_wp2
    go_ret2
    obtain ⟨hown, hg3⟩ := HX.out
    refine ⟨v, rfl, hown, ?_⟩
    have h1 : w.grownBy (w.alloc (.cells #[.int .u8 (xs.length : Int)] 5)) (some w.heap.size) := World.grownBy_alloc _ _ _
    exact grown_new (grown_trans h1 hg3) (Nat.le_refl _)
end Go.Proofs.Ytckpgbkabbddnaa

/- One more byte behind a slice of the call's own. -/
namespace Go.Proofs.Ytckpgbkabbddnaa
open Go.RowKit

theorem rv_lit1 (w : World) (e : TypeId) {y : Int} {b : UInt8} (hy : y = (b.toNat : Int)) : RV (w.alloc (.cells #[.int .u8 y] e)) (some ⟨w.heap.size, 0, none⟩) (bv [b]) := by
  subst hy
  have h := RowB.new w e [b]
  have e1 : (bv [b]).toArray = #[.int .u8 (b.toNat : Int)] := by simp [bv]
  rw [e1] at h
  exact h.rv
theorem wpList_appB1 {P : Program} (W : World) {ops : Array Oper} {rest : List Oper} {o : Oper} {a : Act} {Q : Exit → Act → World → Prop} (hgd : o.guard = none) (s x : Operand) (t : TypeId)
    (ho : o.op = .call { callee := .builtin .append, args := #[s, x], argTypes := #[t, t] })
    (base : Nat) (e : TypeId) (ht : P.underlying t = some (.slice e)) (hinfo : (P.info? e).map (fun i => (i.zero, i.size, i.bytes)) = some (some (.int .u8 0), 1, 1))
    (v : Value) (xs : List UInt8) (hs : a.eval s = v) (hown : OwnB e W base v xs) (y : Int) (b : UInt8) (hx : a.eval x = .slice (some ⟨W.heap.size, 0, none⟩) 1 1) (hy : y = (b.toNat : Int)) (hsz : xs.length + 1 ≤ 140737488355328) (hbase : base ≤ W.heap.size)
    (h : ∀ v' w', OwnB e w' base v' (xs ++ [b]) → W.grownBy w' v.ownBlock → wpList P ops Q rest (a.put o.dst v') w') : wpList P ops Q (o :: rest) a (W.alloc (.cells #[.int .u8 y] e)) := by
  refine wpList_appB (W.alloc (.cells #[.int .u8 y] e)) hgd s x t ho base e ht hinfo v xs hs (hown.below ((Below.refl _ _).alloc (Nat.le_refl _) _)) _ 1 1 [b] hx rfl (rv_lit1 W e hy) (by simpa using hsz) (by simp; omega) ?_
  intro v' w' h1 h2 _
  exact h v' w' h1 (grown_trans (World.grownBy_alloc W _ _) h2)
/-- A literal of bytes, as a slice of the call's own. -/
theorem own_lit (w : World) (e : TypeId) (l : List UInt8) (cs : Array Value) (h : (bv l).toArray = cs) (n : Nat) (hn : l.length = n) (hm : n ≤ maxLen) : OwnB e (w.alloc (.cells cs e)) w.heap.size (.slice (some ⟨w.heap.size, 0, none⟩) n n) l := by
  subst h hn
  exact OwnB.whole (Nat.le_refl _) (RowB.new w e l) hm
end Go.Proofs.Ytckpgbkabbddnaa

/- A text's bytes; bytes as a text. -/
namespace Go.Proofs.Ytckpgbkabbddnaa
open Go.RowKit

theorem conv_str {P : Program} (w : World) (src dst e : TypeId) (s : ByteArray) {u : TypeDesc} (hs : P.underlying src = some u) (hd : P.underlying dst = some (.slice e)) (he : P.underlying e = some (.int .u8)) :
    ∃ c W, (convert src dst (.string s)).run P w = .ok (.slice (some ⟨w.heap.size, 0, none⟩) s.size c) W ∧ RV W (some ⟨w.heap.size, 0, none⟩) (bv s.data.toList) ∧ Below w.heap.size w W := by
  refine ⟨_, _, Lib.run_convert_string_bytes w src dst e s hs hd he, fun _ => ⟨_, rfl, fun j u hu => ?_⟩, ⟨rfl, rfl, rfl, ?_, fun i hi => Lib.bytesWorld_at_old w e s i hi⟩⟩
  · rw [bv_get] at hu
    obtain ⟨b, hb, rfl⟩ := Option.map_eq_some_iff.1 hu
    have hj : j < s.size := (List.getElem?_eq_some_iff.1 hb).1
    rw [add_lit0, Lib.bytesWorld_cell w e s j hj, List.getD_eq_getElem?_getD, hb]
    rfl
  · rw [Lib.bytesWorld_size]; omega
theorem conv_bytes {P : Program} (w : World) (src dst e : TypeId) (A : Option Addr) (c : Nat) (l : List UInt8) (hs : P.underlying src = some (.slice e)) (he : P.underlying e = some (.int .u8)) (hd : P.underlying dst = some .string) (hr : RV w A (bv l)) :
    (convert src dst (.slice A l.length c)).run P w = .ok (.string ⟨l.toArray⟩) w := by
  by_cases h0 : l.length = 0
  · have : l = [] := List.eq_nil_of_length_eq_zero h0
    subst this
    rw [List.length_nil, run_convert_bytes_string w src dst e A 0 c hs he hd]
    cases A with
    | none => rfl
    | some a =>
      have := run_bytesToString (P := P) w a 0 c [] (by simp [loadCells, loadCellsFrom])
      simp at this
      exact this
  · obtain ⟨ad, rfl, hc⟩ := hr (by rw [bv_length]; omega)
    exact run_convert_bytes_back w src dst e ad c l hs he hd fun j hj => hc j _ (by rw [bv_get, List.getElem?_eq_getElem hj]; rfl)
end Go.Proofs.Ytckpgbkabbddnaa

/- A key's bytes: the program's contract. -/
namespace Go.Proofs.Ytckpgbkabbddnaa
open Go.RowKit

def PutKeyEnd (w : World) (r : List UInt8 × Nat) (e : Ending) (w' : World) : Prop :=
  ∃ v, e = .returned (.tuple #[v, .int .i64 (r.2 : Int)]) ∧ OwnB 5 w' w.heap.size v r.1 ∧ Below w.heap.size w w'

theorem putRow_at (w : World) (A : Option Addr) (n c : Nat) (xs : List UInt8) (hn : xs.length = n) (hr : RV w A (bv xs)) (hx : n ≤ 255) :
    Calls Try.prog 53 #[.slice A n c] w (PutEnd w (UInt8.ofNat n :: xs)) := by
  subst hn
  exact putRow_ok w A c xs hr hx

set_option maxRecDepth 100000 in
set_option maxHeartbeats 1000000 in
theorem putKey_any (w : World) (k : Ky) (hs : k.name.size ≤ maxLen) : Calls Try.prog 35 #[k.val] w (PutKeyEnd w (putKeyS k)) := by
  by_cases hm : mayK k
  · have hput : putKeyS k = (keyB k, 0) := if_pos hm
    rw [hput]
    have hdm : decide (mayK k) = true := decide_eq_true hm
    have hC := fun w => mayK_any w k hs
    rw [hdm] at hC
    have HC := Lib.hid hC
    clear hC hdm hput
    obtain ⟨i, a, s, c⟩ := k
    obtain ⟨hi1, hi2, hk⟩ := hm
    dsimp only at hi1 hi2 hk hs
    unfold Ky.val at *
    dsimp only at HC ⊢
    have hblk := Blk.new w 39 #[.int .i64 i, .int .u8 (a.toNat : Int), .string s, .int .i64 c]
    have HB := Lib.hid hblk
    clear hblk
    obtain ⟨m, rfl⟩ : ∃ m : Nat, i = m := ⟨i.toNat, by omega⟩
    have ha255 : (a.toNat : Int) ≤ 255 := by have := a.toNat_lt; omega
    rcases hk with ⟨ha, hn, hc⟩ | ⟨ha, hn, hc⟩ | ⟨ha, hn, hc, hc8⟩
    · have q1 : ((a.toNat : Int) == 2) = false := by rw [ha]; rfl
      have q2 : ((a.toNat : Int) == 3) = false := by rw [ha]; rfl
      have hkb : keyB ⟨m, a, s, c⟩ = digs m 2 ++ [a] := by rw [ha]; simp [keyB]
      rw [hkb]
      clear ha hn hc hkb
      generalize hA : (a.toNat : Int) = n at *
      have HA := Lib.hid hA.symm
      clear hA
      go_enter Try.func35, Try.ntmps35
      go_wp2_with (first
        | (go_at_call 51; refine (HC.out _).mono ?_; rintro e w1 ⟨rfl, hb1⟩; have k0 := HB.out.below hb1 HB.out.lt; have c0 := k0.cell 0; have c1 := k0.cell 1; have c2 := k0.cell 2; have c3 := k0.cell 3; simp at c0 c1 c2 c3; have H1 := Lib.hid (And.intro (below_new hb1) k0); clear hb1 k0))
      have hszw : w.heap.size < w1.heap.size := H1.out.2.lt
      clear c0 c1 c2 c3
      refine (put_ok m 2 w1 (.inr (.inl rfl)) (by omega) (by omega)).mono ?_
      rintro e w2 ⟨v2, rfl, ho2, hb2⟩
      have k2 := H1.out.2.below hb2 H1.out.2.lt
      have d1 := k2.cell 1
      simp at d1
      have hlen := digs_length m 2
      generalize hds : digs m 2 = D at *
      have H2 := Lib.hid (And.intro ho2 (And.intro (below_then H1.out.1 H1.out.1.size hb2) (And.intro k2 hds)))
      have hsz2 := hb2.size
      clear k2 ho2 hb2 hds
      go_wp2_with (at_builtin; refine wpList_appB1 w2 rfl _ _ 28 rfl w1.heap.size 5 Try.underlying28 u8info v2 D rfl H2.out.1 _ a rfl HA.out (by omega) (by omega) ?_)
      intro v3 w3 ho3 hg3
      have k3 := H2.out.2.2.1.grown hg3 (fun e => by have := (H2.out.1.blk e.symm).1; omega)
      clear d1
      have d1 := k3.cell 1
      have d2 := k3.cell 2
      have d3 := k3.cell 3
      simp at d1 d2 d3
      have hsz3 := hg3.size
      have H3 := Lib.hid (And.intro ho3 (And.intro k3 (H2.out.2.1.grown hg3 H2.out.2.1.size (fun k e => by have := (H2.out.1.blk e).1; omega))))
      clear k3 ho3 hg3
      go_wp2_with fail
      go_ret2
      exact ⟨_, rfl, H3.out.1.lower H1.out.1.size, H3.out.2.2⟩
    · have hl12 : s.size ≤ 12 := hn.2.2.1
      have q1 : ((a.toNat : Int) == 2) = true := by rw [ha]; rfl
      have hkb : keyB ⟨m, a, s, c⟩ = digs m 2 ++ [a] ++ (UInt8.ofNat s.size :: s.data.toList) := by rw [ha]; simp [keyB]
      rw [hkb]
      clear ha hn hc hkb
      generalize hA : (a.toNat : Int) = n at *
      have HA := Lib.hid hA.symm
      clear hA
      go_enter Try.func35, Try.ntmps35
      go_wp2_with (first
        | (go_at_call 51; refine (HC.out _).mono ?_; rintro e w1 ⟨rfl, hb1⟩; have k0 := HB.out.below hb1 HB.out.lt; have c0 := k0.cell 0; have c1 := k0.cell 1; have c2 := k0.cell 2; have c3 := k0.cell 3; simp at c0 c1 c2 c3; have H1 := Lib.hid (And.intro (below_new hb1) k0); clear hb1 k0))
      have hszw : w.heap.size < w1.heap.size := H1.out.2.lt
      clear c0 c1 c2 c3
      refine (put_ok m 2 w1 (.inr (.inl rfl)) (by omega) (by omega)).mono ?_
      rintro e w2 ⟨v2, rfl, ho2, hb2⟩
      have k2 := H1.out.2.below hb2 H1.out.2.lt
      have d1 := k2.cell 1
      simp at d1
      have hlen := digs_length m 2
      generalize hds : digs m 2 = D at *
      have H2 := Lib.hid (And.intro ho2 (And.intro (below_then H1.out.1 H1.out.1.size hb2) (And.intro k2 hds)))
      have hsz2 := hb2.size
      clear k2 ho2 hb2 hds
      go_wp2_with (at_builtin; refine wpList_appB1 w2 rfl _ _ 28 rfl w1.heap.size 5 Try.underlying28 u8info v2 D rfl H2.out.1 _ a rfl HA.out (by omega) (by omega) ?_)
      intro v3 w3 ho3 hg3
      have k3 := H2.out.2.2.1.grown hg3 (fun e => by have := (H2.out.1.blk e.symm).1; omega)
      clear d1
      have d1 := k3.cell 1
      have d2 := k3.cell 2
      have d3 := k3.cell 3
      simp at d1 d2 d3
      have hsz3 := hg3.size
      have H3 := Lib.hid (And.intro ho3 (And.intro k3 (H2.out.2.1.grown hg3 H2.out.2.1.size (fun k e => by have := (H2.out.1.blk e).1; omega))))
      clear k3 ho3 hg3
      obtain ⟨cc, W4, hrun, hrv4, hb4⟩ := conv_str (P := Try.prog) w3 9 28 5 s Try.underlying9 Try.underlying28 Try.underlying5
      have H4 := Lib.hid (And.intro hrv4 (And.intro hb4 (below_then H3.out.2.2 H3.out.2.2.size hb4)))
      have hsz4 := hb4.size
      clear hrv4 hb4
      go_wp2_with fail
      refine (putRow_at W4 _ s.size cc s.data.toList rfl H4.out.1 (by omega)).mono ?_
      rintro e w5 ⟨v5, rfl, ho5, hb5⟩
      obtain ⟨A5, c5, rfl, hrv5, _, _, _⟩ := ho5.slice
      have hlen5 : (UInt8.ofNat s.size :: s.data.toList).length = s.size + 1 := rfl
      have H5 := Lib.hid (And.intro hrv5 (And.intro ((H3.out.1.below H4.out.2.1).below hb5) (And.intro (below_then H4.out.2.2 H4.out.2.2.size hb5) hlen5)))
      have hsz5 := hb5.size
      clear hrv5 hb5 ho5
      rw [hlen5]
      clear hlen5
      generalize hR : (UInt8.ofNat s.size :: s.data.toList) = R at *
      go_wp2_with (at_builtin; refine wpList_appB _ rfl _ _ 28 rfl w1.heap.size 5 Try.underlying28 u8info v3 (D ++ [a]) rfl H5.out.2.1 _ (s.size + 1) c5 R rfl H5.out.2.2.2 H5.out.1 ?_ ?_ ?_)
      · rw [List.length_append, H5.out.2.2.2, hlen]; simp; omega
      · omega
      intro v6 w6 ho6 hg6 hv6
      have H6 := Lib.hid (And.intro ho6 (H5.out.2.2.1.grown hg6 H5.out.2.2.1.size (fun k e => by have := (H5.out.2.1.blk e).1; omega)))
      clear ho6 hg6 hv6
      go_wp2_with fail
      go_ret2
      refine ⟨_, rfl, ?_, H6.out.2⟩
      show OwnB 5 w6 w.heap.size v6 (D ++ [a] ++ R)
      rw [List.append_assoc]
      exact H6.out.1.lower H1.out.1.size
    · obtain ⟨z, rfl⟩ : ∃ z : Nat, c = z := ⟨c.toNat, by omega⟩
      have q1 : ((a.toNat : Int) == 2) = false := by rw [ha]; rfl
      have q2 : ((a.toNat : Int) == 3) = true := by rw [ha]; rfl
      have hkb : keyB ⟨m, a, s, z⟩ = digs m 2 ++ [a] ++ [UInt8.ofNat z] := by rw [ha]; simp [keyB]
      have hzb : (z : Int) = ((UInt8.ofNat z).toNat : Int) := by rw [UInt8.toNat_ofNat']; omega
      have HZ := Lib.hid hzb
      rw [hkb]
      clear ha hn hkb hzb
      generalize hA : (a.toNat : Int) = n at *
      have HA := Lib.hid hA.symm
      clear hA
      go_enter Try.func35, Try.ntmps35
      go_wp2_with (first
        | (go_at_call 51; refine (HC.out _).mono ?_; rintro e w1 ⟨rfl, hb1⟩; have k0 := HB.out.below hb1 HB.out.lt; have c0 := k0.cell 0; have c1 := k0.cell 1; have c2 := k0.cell 2; have c3 := k0.cell 3; simp at c0 c1 c2 c3; have H1 := Lib.hid (And.intro (below_new hb1) k0); clear hb1 k0))
      have hszw : w.heap.size < w1.heap.size := H1.out.2.lt
      clear c0 c1 c2 c3
      refine (put_ok m 2 w1 (.inr (.inl rfl)) (by omega) (by omega)).mono ?_
      rintro e w2 ⟨v2, rfl, ho2, hb2⟩
      have k2 := H1.out.2.below hb2 H1.out.2.lt
      have d1 := k2.cell 1
      simp at d1
      have hlen := digs_length m 2
      generalize hds : digs m 2 = D at *
      have H2 := Lib.hid (And.intro ho2 (And.intro (below_then H1.out.1 H1.out.1.size hb2) (And.intro k2 hds)))
      have hsz2 := hb2.size
      clear k2 ho2 hb2 hds
      go_wp2_with (at_builtin; refine wpList_appB1 w2 rfl _ _ 28 rfl w1.heap.size 5 Try.underlying28 u8info v2 D rfl H2.out.1 _ a rfl HA.out (by omega) (by omega) ?_)
      intro v3 w3 ho3 hg3
      have k3 := H2.out.2.2.1.grown hg3 (fun e => by have := (H2.out.1.blk e.symm).1; omega)
      clear d1
      have d1 := k3.cell 1
      have d2 := k3.cell 2
      have d3 := k3.cell 3
      simp at d1 d2 d3
      have hsz3 := hg3.size
      have H3 := Lib.hid (And.intro ho3 (And.intro k3 (H2.out.2.1.grown hg3 H2.out.2.1.size (fun k e => by have := (H2.out.1.blk e).1; omega))))
      clear k3 ho3 hg3
      go_wp2_with (at_builtin; refine wpList_appB1 w3 rfl _ _ 28 rfl w1.heap.size 5 Try.underlying28 u8info v3 (D ++ [a]) rfl H3.out.1 _ (UInt8.ofNat z) rfl HZ.out (by simp [hlen]) (by omega) ?_)
      intro v6 w6 ho6 hg6
      have H6 := Lib.hid (And.intro ho6 (H3.out.2.2.grown hg6 H3.out.2.2.size (fun k e => by have := (H3.out.1.blk e).1; omega)))
      clear ho6 hg6
      go_wp2_with fail
      go_ret2
      refine ⟨_, rfl, ?_, H6.out.2⟩
      show OwnB 5 w6 w.heap.size v6 (D ++ [a] ++ [UInt8.ofNat z])
      rw [List.append_assoc]
      exact H6.out.1.lower H1.out.1.size
  · have hput : putKeyS k = ([], 2) := if_neg hm
    rw [hput]
    have hdm : decide (mayK k) = false := decide_eq_false hm
    have hC := fun w => mayK_any w k hs
    rw [hdm] at hC
    have HC := Lib.hid hC
    clear hC hdm hput hm
    obtain ⟨i, a, s, c⟩ := k
    unfold Ky.val at *
    dsimp only at HC ⊢
    generalize (a.toNat : Int) = n at *
    go_enter Try.func35, Try.ntmps35
    go_wp2_with (first
      | (go_at_call 51; refine (HC.out _).mono ?_; rintro e w1 ⟨rfl, hb1⟩; have H1 := Lib.hid (below_new hb1); clear hb1))
    go_ret2
    exact ⟨_, rfl, OwnB.nil _ _ _, H1.out⟩
end Go.Proofs.Ytckpgbkabbddnaa
