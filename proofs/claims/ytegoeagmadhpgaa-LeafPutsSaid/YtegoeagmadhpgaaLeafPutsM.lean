import Derived.Test.YtegoeagmadhpgaaWorks15M
import Derived.Test.YtegoeagmadhpgaaInnKM
import Derived.Test.YtegoeagmadhpgaaInnPM
import Derived.Test.YtegoeagmadhpgaaDInnPM
import Derived.Test.YtegoeagmadhpgaaDLeafPM
import Derived.Test.YtegoeagmadhpgaaMCopy
import Derived.Test.YtegoeagmadhpgaaSameKM
set_option linter.unusedVariables false
set_option linter.unusedSimpArgs false
/- Layer 15: LeafPuts. -/
namespace Go.Proofs.Ytegoeagmadhpgaa
open Go.RowKit

set_option maxRecDepth 100000 in
set_option maxHeartbeats 4000000 in
theorem walkLeafPuts (w : World) (s : Int) (ws : (Lit.int .i64 s).wf = true) (A : Option Addr) (d : Nat) (l : List Fct) (hin : FctsIn w A l.length l) (hvl : ∀ f ∈ l, f.val.length ≤ 140737488351232) (hn : l.length * 64 ≤ 140737488351232)
    (B : Option Addr) (dB : Nat) (cs : List Chd) (hic : ChdsIn w B cs.length cs) (hnc : cs.length * 56 ≤ 140737488351232) :
    Calls Try.prog 5 #[.int .i64 s, .slice A l.length d, .slice B cs.length dB] w fun e w' => e = .returned (.bool true) ∧ Below w.heap.size w w' := by
  clear ws
  obtain ⟨n, hN⟩ : ∃ n, l.length = n := ⟨_, rfl⟩
  obtain ⟨m, hM⟩ : ∃ m, cs.length = m := ⟨_, rfl⟩
  rw [hN] at hin hn ⊢
  rw [hM] at hic hnc ⊢
  have HL := Lib.hid (fun w => lives15_any w)
  have HC := Lib.hid (dCopyF_any w A n d l hin hvl hn)
  have HG := Lib.hid (fun (w' : World) (X : Option Addr) (c : Nat) (h : FctsIn w' X n l) => putLeaf_any w' s X n c l h hvl (by omega))
  have HD := Lib.hid (fun (w' : World) (h : FctsIn w' A n l) => dPutLeaf_any w' s A n d l h hvl (by omega))
  have HI := Lib.hid (fun w' (hb : Below w.heap.size w w') => putInner_any w' s B m dB cs (ListIn.below chd_len (by decide) hic hb) (by omega))
  have HJ := Lib.hid (fun w' (hb : Below w.heap.size w w') => dPutInner_any w' s B m dB cs (ListIn.below chd_len (by decide) hic hb) (by omega))
  have H := Lib.hid hin
  clear hin hic hvl hN hM
  obtain ⟨r1, hr1⟩ : ∃ r, putLeafS s l = r := ⟨_, rfl⟩
  obtain ⟨r2, hr2⟩ : ∃ r, putInnerS s cs = r := ⟨_, rfl⟩
  rw [hr1] at HG HD
  rw [hr2] at HI HJ
  clear hr1 hr2
  obtain ⟨pb, e1⟩ := r1
  obtain ⟨qb, e2⟩ := r2
  go_enter Try.func5, Try.ntmps5
  go_wp2_with fail
  refine HC.out.mono ?_
  rintro e w1 ⟨v1, rfl, ho1, hb1⟩
  obtain ⟨A1, c1, rfl, hin1, hl1, hm1, _⟩ := OwnL.listIn fct_len ho1
  have H1 := Lib.hid (And.intro hin1 hb1)
  clear ho1 hin1 hb1
  go_wp2_with fail
  refine (HG.out w1 A1 c1 H1.out.1).mono ?_
  rintro e w2 ⟨v2, rfl, ho2, hb2⟩
  have H2 := Lib.hid (And.intro ho2 (And.intro (ListIn.below fct_len (by decide) H1.out.1 hb2) (below_then H1.out.2 H1.out.2.size hb2)))
  clear ho2 hb2
  dsimp only
  go_wp2_with fail
  refine (HD.out w2 (ListIn.below fct_len (by decide) H.out H2.out.2.2)).mono ?_
  rintro e w3 ⟨v3, rfl, ho3, hb3⟩
  have H3 := Lib.hid (And.intro ho3 (And.intro (H2.out.1.below hb3) (And.intro (ListIn.below fct_len (by decide) H2.out.2.1 hb3) (below_then H2.out.2.2 H2.out.2.2.size hb3))))
  clear ho3 hb3
  dsimp only
  go_wp2_with fail
  refine (same_oo w3 _ _ v2 v3 pb pb H3.out.2.1 H3.out.1).mono ?_
  rintro e w4 ⟨rfl, hd4⟩
  rw [decide_eq_true rfl]
  have hb4 := hd4.below w3.heap.size
  have H4 := Lib.hid (And.intro (ListIn.below fct_len (by decide) H3.out.2.2.1 hb4) (below_then H3.out.2.2.2 H3.out.2.2.2.size hb4))
  clear hd4 hb4
  go_wp2_with fail
  refine (dFacts_any w4 A1 n c1 l H4.out.1 A n d l (ListIn.below fct_len (by decide) H.out H4.out.2) hn).mono ?_
  rintro e w5 ⟨rfl, hd5⟩
  rw [decide_eq_true rfl]
  have H5 := Lib.hid (below_then H4.out.2 H4.out.2.size (hd5.below _))
  clear hd5
  go_wp2_with fail
  refine (HI.out w5 H5.out).mono ?_
  rintro e w6 ⟨v6, rfl, ho6, hb6⟩
  have H6 := Lib.hid (And.intro ho6 (below_then H5.out H5.out.size hb6))
  clear ho6 hb6
  dsimp only
  go_wp2_with fail
  refine (HJ.out w6 H6.out.2).mono ?_
  rintro e w7 ⟨v7, rfl, ho7, hb7⟩
  have H7 := Lib.hid (And.intro ho7 (And.intro (H6.out.1.below hb7) (below_then H6.out.2 H6.out.2.size hb7)))
  clear ho7 hb7
  dsimp only
  go_wp2_with fail
  refine (same_oo w7 _ _ v6 v7 qb qb H7.out.2.1 H7.out.1).mono ?_
  rintro e w8 ⟨rfl, hd8⟩
  rw [decide_eq_true rfl]
  have H8 := Lib.hid (below_then H7.out.2.2 H7.out.2.2.size (hd8.below _))
  clear hd8
  go_wp2_with fail
  refine (HL.out _).mono ?_
  rintro e w9 ⟨rfl, hb9⟩
  have H9 := Lib.hid (below_then H8.out H8.out.size hb9)
  clear hb9
  go_wp2_with fail
  go_ret
  exact ⟨rfl, H9.out⟩
end Go.Proofs.Ytegoeagmadhpgaa
