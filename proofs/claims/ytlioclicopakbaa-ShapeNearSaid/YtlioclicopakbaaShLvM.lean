import Derived.Test.YtlioclicopakbaaShCutM
set_option linter.unusedVariables false
set_option linter.unusedSimpArgs false
/- Layer 16: contracts of Leaves, Above. -/
namespace Go.Proofs.Ytlioclicopakbaa
open Go.RowKit

def itsL (l : List Fct) : List (Ky × Nat) := l.map fun f => (f.key, lenS f)
def itsA (l : List Ky) : List (Ky × Nat) := l.map fun k => (k, innS k)
def leavesS (s : Int) (l : List Fct) : List Nat × Nat := shCut s (itsL l) 1
def aboveS (s : Int) (l : List Ky) : List Nat × Nat := shCut s (itsA l) 2
theorem itsL_keys (l : List Fct) : (itsL l).map (·.1) = l.map (·.key) := by unfold itsL; rw [List.map_map]; rfl
theorem itsA_keys (l : List Ky) : (itsA l).map (·.1) = l := by unfold itsA; rw [List.map_map]; simp [Function.comp_def]
theorem run_enter {P : Program} {f : FuncId} {fn : Func} {c : Code} (hf : P.funcs[f]? = some fn) (hname : (fn.name == "runtime.NumGoroutine") = false) (hb : fn.body = some c) (args : Array Value) (w : World) :
    (callFunc f args).run P w = .ok (.enter f args) w := by
  have h1 : fn.name ≠ "runtime.NumGoroutine" := by simpa using hname
  simp [callFunc, hf, h1, hb]
theorem enter_L : ∀ args w, (callFunc 27 args).run Try.prog w = .ok (.enter 27 args) w := fun args w => run_enter Try.func27 (by kernel_rfl) rfl args w
theorem enter_A : ∀ args w, (callFunc 31 args).run Try.prog w = .ok (.enter 31 args) w := fun args w => run_enter Try.func31 (by kernel_rfl) rfl args w
theorem lenS_le (f : Fct) (h : f.val.length ≤ 140737488351232) : lenS f ≤ 281474976710656 := by
  unfold lenS
  split
  · have := (keyB_length ‹_›).2
    omega
  · omega
theorem innS_le (k : Ky) : innS k ≤ 18 := by
  unfold innS
  split
  · have := (keyB_length ‹_›).2
    omega
  · omega

set_option maxRecDepth 100000 in
set_option maxHeartbeats 1000000 in
theorem leaf1_any (w : World) (g : Nat) (A : Option Addr) (n d : Nat) (l : List Fct) (hb : Blk w g 22 #[.slice A n d]) (h : FctsIn w A n l) (hv : ∀ f ∈ l, f.val.length ≤ 140737488351232) (hn : n ≤ 140737488351232) (i : Nat) (f : Fct) (hi : l[i]? = some f) :
    Calls Try.prog 27 #[.int .i64 (i : Int), .pointer (some ⟨g, 0, none⟩)] w fun e w' => e = .returned (.int .i64 (lenS f : Int)) ∧ Below w.heap.size w w' := by
  have hil : i < n := by have := (List.getElem?_eq_some_iff.1 hi).1; have := h.1; omega
  obtain ⟨okf, ad, B1, d1, hA, hr1, l1, l2, hblk, x0, x1, x2, x3, x4⟩ := FctsIn.at_ h hi
  subst hA
  have c0 := hb.cell 0
  simp at c0
  have HC := Lib.hid (fun w => leafLen_any w f okf B1 f.val.length d1 rfl (hv f (List.mem_of_getElem? hi)))
  clear h hv hb hi okf hr1
  obtain ⟨⟨fi, fa, fs, fc⟩, fv⟩ := f
  dsimp only at x0 x1 x2 x3 x4 HC l1
  have hin : (i : Int) < (n : Int) := by omega
  go_enter Try.func27, Try.ntmps27
  go_wp2_with fail
  refine (HC.out _).mono ?_
  rintro e w1 ⟨rfl, hb1⟩
  have H1 := Lib.hid hb1
  clear hb1 x0 x1 x2 x3 x4 c0
  go_wp2_with fail
  go_ret
  exact ⟨rfl, H1.out⟩

set_option maxRecDepth 100000 in
set_option maxHeartbeats 1000000 in
theorem above1_any (w : World) (g : Nat) (A : Option Addr) (n d : Nat) (l : List Ky) (hb : Blk w g 28 #[.slice A n d]) (h : KeysIn w A n l) (hn : n ≤ 140737488351232) (i : Nat) (k : Ky) (hi : l[i]? = some k) :
    Calls Try.prog 31 #[.int .i64 (i : Int), .pointer (some ⟨g, 0, none⟩)] w fun e w' => e = .returned (.int .i64 (innS k : Int)) ∧ Below w.heap.size w w' := by
  have hil : i < n := by have := (List.getElem?_eq_some_iff.1 hi).1; have := h.1; omega
  obtain ⟨okf, ad, hA, hblk, x0, x1, x2, x3⟩ := KeysIn.at_ h hi
  subst hA
  have c0 := hb.cell 0
  simp at c0
  have HC := Lib.hid (fun w => innLen_any w k okf)
  clear h hb hi okf
  obtain ⟨fi, fa, fs, fc⟩ := k
  unfold Ky.val at HC
  dsimp only at x0 x1 x2 x3 HC
  have hin : (i : Int) < (n : Int) := by omega
  go_enter Try.func31, Try.ntmps31
  go_wp2_with fail
  refine (HC.out _).mono ?_
  rintro e w1 ⟨rfl, hb1⟩
  have H1 := Lib.hid hb1
  clear hb1 x0 x1 x2 x3 c0
  go_wp2_with fail
  go_ret
  exact ⟨rfl, H1.out⟩

theorem shCut_any (w : World) (s : Int) (A : Option Addr) (n d : Nat) (its : List (Ky × Nat)) (fid : Nat) (pv : Value) (least : Nat) (h : KeysIn w A n (its.map (·.1))) (hn : n * 40 ≤ 140737488351232)
    (hf : ∀ w', Below w.heap.size w w' → ∀ (i : Nat) (k : Ky) (c : Nat), its[i]? = some (k, c) → c ≤ 281474976710656 ∧ Calls Try.prog fid #[.int .i64 (i : Int), pv] w' fun e w'' => e = .returned (.int .i64 (c : Int)) ∧ Below w'.heap.size w' w'') (hl : least ≤ 2)
    (hcf : ∀ args w, (callFunc fid args).run Try.prog w = .ok (.enter fid args) w) :
    Calls Try.prog 26 #[.int .i64 s, .slice A n d, .func (.func fid) #[] #[pv], .int .i64 (least : Int)] w (IntsEnd w (shCut s its least)) := by
  by_cases hs : 128 ≤ s ∧ s ≤ 256
  · exact shCut_ok w s A n d its fid pv least h hn hs hf hl hcf
  · exact shCut_size w s A n d its _ least hs

set_option maxRecDepth 100000 in
set_option maxHeartbeats 1000000 in
theorem above_any (w : World) (s : Int) (A : Option Addr) (n d : Nat) (l : List Ky) (h : KeysIn w A n l) (hn : n * 40 ≤ 140737488351232) :
    Calls Try.prog 12 #[.int .i64 s, .slice A n d] w (IntsEnd w (aboveS s l)) := by
  have hblk := Blk.new w 28 #[.slice A n d]
  have c0 := hblk.cell 0
  simp at c0
  have hin := ListIn.below ky_len (by decide) h ((Below.refl w.heap.size w).alloc (Nat.le_refl _) (.cells #[.slice A n d] 28))
  have HC := Lib.hid (shCut_any (w.alloc (.cells #[.slice A n d] 28)) s A n d (itsA l) 31 (.pointer (some ⟨w.heap.size, 0, none⟩)) 2 (by rw [itsA_keys]; exact hin) hn (fun w' hb i k c hi => by
    unfold itsA at hi
    rw [List.getElem?_map] at hi
    obtain ⟨k', hk', he⟩ := Option.map_eq_some_iff.1 hi
    cases he
    exact ⟨Nat.le_trans (innS_le k) (by decide), above1_any w' w.heap.size A n d l (hblk.below hb hblk.lt) (ListIn.below ky_len (by decide) hin hb) (by omega) i k hk'⟩) (by decide) enter_A)
  clear hin hblk h
  unfold aboveS
  go_enter Try.func12, Try.ntmps12
  go_wp2_with fail
  refine HC.out.mono ?_
  rintro e w1 ⟨v1, rfl, ho1, hb1⟩
  have H1 := Lib.hid (And.intro (ho1.lower (show w.heap.size ≤ _ by rw [alloc_sz]; omega)) (below_new hb1))
  clear ho1 hb1 c0
  go_wp2_with fail
  go_ret2
  exact ⟨_, rfl, H1.out.1, H1.out.2⟩

set_option maxRecDepth 100000 in
set_option maxHeartbeats 1000000 in
theorem leaves_any (w : World) (s : Int) (A : Option Addr) (n d : Nat) (l : List Fct) (h : FctsIn w A n l) (hv : ∀ f ∈ l, f.val.length ≤ 140737488351232) (hn : n * 64 ≤ 140737488351232) :
    Calls Try.prog 8 #[.int .i64 s, .slice A n d] w (IntsEnd w (leavesS s l)) := by
  have hblk := Blk.new w 22 #[.slice A n d]
  have c0 := hblk.cell 0
  simp at c0
  have H := Lib.hid (And.intro h (And.intro h.1 (And.intro hv hblk)))
  clear h hv hblk
  unfold leavesS
  obtain ⟨ii, iz, hii, hiz, hi1, hi2, hi3⟩ := ky_info'
  go_enter Try.func8, Try.ntmps8
  go_wp2_with fail
  go_loopg [6, 11] n (fun k v i wr => ∃ j : Nat, j + k = n ∧ i = .int .i64 j ∧ OwnY wr (w.heap.size + 1) v j ((l.take j).map (·.key)) ∧ Below w.heap.size w wr ∧ Blk wr w.heap.size 22 #[.slice A n d])
  case atStart => exact ⟨0, by omega, rfl, OwnL.nil _ _ _, (Below.refl _ _).alloc (Nat.le_refl _) _, H.out.2.2.2⟩
  case round =>
    obtain ⟨j, hj, rfl, ho, hb, hk⟩ := hrel
    have HX := Lib.hid (And.intro hj (And.intro ho (And.intro hb hk)))
    clear hj ho hb hk c0
    by_cases hlt : j < n
    · obtain ⟨f, hf⟩ : ∃ f, l[j]? = some f := ⟨_, List.getElem?_eq_getElem (by have := H.out.2.1; omega)⟩
      obtain ⟨okf, ad, B1, d1, hA, hr1, l1, l2, hblk, x0, x1, x2, x3, x4⟩ := FctsIn.at_ H.out.1 hf
      subst hA
      have up : ∀ {p : Addr} {u : Value}, w.cell? p = some u → p.block < w.heap.size → wr.cell? p = some u := fun hu hp => (World.cell?_of_block (HX.out.2.2.1.block _ hp)).trans hu
      have p0 := up x0 hblk
      have p1 := up x1 hblk
      have p2 := up x2 hblk
      have p3 := up x3 hblk
      have p4 := up x4 hblk
      have hjn : (j : Int) < (n : Int) := by omega
      have htk : (l.take (j + 1)).map (·.key) = (l.take j).map (·.key) ++ [f.key] := by
        rw [List.take_add_one, hf, List.map_append]
        rfl
      have hown := HX.out.2.1
      generalize (l.take j).map (·.key) = G at hown htk
      have HV := Lib.hid (And.intro okf htk)
      clear x0 x1 x2 x3 x4 up hf okf hr1 htk
      obtain ⟨⟨fi, fa, fs, fc⟩, fv⟩ := f
      dsimp only at p0 p1 p2 p3 p4 HV l1
      obtain ⟨W, hW⟩ : ∃ W, wr.alloc (.cells #[.int .i64 fi, .int .u8 (fa.toNat : Int), .string fs, .int .i64 fc, .slice B1 fv.length d1] 41) = W := ⟨_, rfl⟩
      have hbW : Below wr.heap.size wr W := by rw [← hW]; exact (Below.refl _ _).alloc (Nat.le_refl _) _
      have hsW : W.heap.size = wr.heap.size + 1 := by rw [← hW]; exact alloc_sz _ _
      have HW := Lib.hid (And.intro (hown.below hbW) (And.intro (below_then HX.out.2.2.1 HX.out.2.2.1.size hbW) (And.intro (HX.out.2.2.2.below hbW HX.out.2.2.2.lt) hsW)))
      clear hbW hsW hown
      subst hW
      have hgt := HX.out.2.2.2.lt
      go_wp2_with (at_builtin; refine wpList_appL1H (cell := kyCells) (val := kyVal) (ok := okKy) (sz := 4) _ rfl _ _ 28 rfl (w.heap.size + 1) 33 ii iz 40 Try.underlying28 hii hiz hi1 hi2 hi3 (by decide) ky_len ky_one u6 j G rfl HW.out.1 (⟨fi, fa, fs, fc⟩ : Ky) (.slice none 0 0) _ HW.out.2.2.2 rfl HV.out.1 (noVal _ _) _ rfl ?_ ?_ ?_ ?_)
      · unfold maxLen; omega
      · omega
      · rw [HW.out.2.2.2]; omega
      intro v2 w2 ho2 hg2 hv2
      rw [← HV.out.2] at ho2
      have hrow : ∀ k, u6.ownBlock = some k → w.heap.size + 1 ≤ k := fun k e => (OwnL.blk HW.out.1 e).1
      have H2 := Lib.hid (And.intro ho2 (And.intro (HW.out.2.1.grown hg2 HW.out.2.1.size (fun k e => by have := hrow k e; omega)) (HW.out.2.2.1.grown hg2 (fun e => by have := hrow _ e.symm; omega))))
      clear ho2 hg2 hv2 hrow
      go_wp2_with fail
      go_roundg (n - (j + 1))
      case measure => have := HX.out.1; omega
      case rel => exact ⟨j + 1, by have := HX.out.1; omega, by go_num, H2.out.1, H2.out.2.1, H2.out.2.2⟩
    · obtain rfl : j = n := by have := HX.out.1; omega
      have hge : ¬ (j : Int) < (j : Int) := by omega
      have ho := HX.out.2.1
      rw [List.take_of_length_le (by have := H.out.2.1; omega)] at ho
      obtain ⟨A6, c6, rfl, hin, hl6, hm6, _⟩ := OwnL.listIn ky_len ho
      have HC := Lib.hid (shCut_any wr s A6 j c6 (itsL l) 27 (.pointer (some ⟨w.heap.size, 0, none⟩)) 1 (by rw [itsL_keys]; exact hin) (by omega) (fun w' hb i k c hi => by
        unfold itsL at hi
        rw [List.getElem?_map] at hi
        obtain ⟨f, hf, he⟩ := Option.map_eq_some_iff.1 hi
        cases he
        exact ⟨lenS_le f (H.out.2.2.1 f (List.mem_of_getElem? hf)), leaf1_any w' w.heap.size A j d l (HX.out.2.2.2.below hb HX.out.2.2.2.lt) (ListIn.below fct_len (by decide) H.out.1 (below_then HX.out.2.2.1 HX.out.2.2.1.size hb)) H.out.2.2.1 (by omega) i f hf⟩) (by decide) enter_L)
      clear ho hin
      go_wp2_with fail
      refine HC.out.mono ?_
      rintro e w2 ⟨v2, rfl, ho2, hb2⟩
      have H2 := Lib.hid (And.intro (ho2.lower HX.out.2.2.1.size) (below_then HX.out.2.2.1 HX.out.2.2.1.size hb2))
      clear ho2 hb2
      go_wp2_with fail
      go_ret2
      exact ⟨_, rfl, H2.out.1, H2.out.2⟩
end Go.Proofs.Ytlioclicopakbaa
