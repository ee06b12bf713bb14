import Derived.Test.YtlioclicopakbaaShPM
set_option linter.unusedVariables false
set_option linter.unusedSimpArgs false
/- Layer 16: contract of firsts. -/
namespace Go.Proofs.Ytlioclicopakbaa
open Go.RowKit

/-- What is left of a list behind some elements. -/
theorem ListIn.dropK {α : Type} {cell : α → Value → List Value} {val : α → List UInt8} {ok : α → Prop} {sz : Nat} {w : World} {ad : Addr} {n : Nat} {l : List α} (h : ListIn cell val ok sz w (some ad) n l) (k d : Nat) (hk : k ≤ n) (hd : n ≤ d) :
    ListIn cell val ok sz w (if d = k then some ad else some (ad.add (k * sz))) (n - k) (l.drop k) := by
  by_cases hz : d = k
  · have : l.drop k = [] := List.drop_of_length_le (by have := h.1; omega)
    rw [this]
    exact ⟨by simp; omega, fun i a ha => by simp at ha⟩
  · rw [if_neg hz]
    have := ListIn.part h k n hk (Nat.le_refl _)
    rwa [List.take_of_length_le (by rw [h.1]; exact Nat.le_refl _)] at this

set_option maxRecDepth 100000 in
set_option maxHeartbeats 1000000 in
theorem firsts_any (w : World) (A : Option Addr) (n d : Nat) (ks : List Ky) (h : KeysIn w A n ks) (hd : n ≤ d) (hd2 : d ≤ maxLen) (hn : n * 40 ≤ 140737488351232) (B : Option Addr) (m e : Nat) (cs : List Nat) (hc : RV w B (iv cs)) (hm : cs.length = m) (hsum : cs.sum = n) (hpos : ∀ c ∈ cs, 1 ≤ c) :
    Calls Try.prog 37 #[.slice A n d, .slice B m e] w fun e w' => ∃ v, e = .returned v ∧ OwnY w' w.heap.size v (firstsS ks cs).length (firstsS ks cs) ∧ Below w.heap.size w w' := by
  have hlen := firstsS_len ks cs (by rw [hsum, h.1]) hpos
  have hmn : m ≤ n := by
    rw [← hm, ← hsum]
    clear h hc hm hsum hlen
    induction cs with
    | nil => simp
    | cons c cs ih =>
      have h1 := hpos c (by simp)
      have h2 := ih fun x hx => hpos x (by simp [hx])
      simp only [List.length_cons, List.sum_cons]
      omega
  have H := Lib.hid (And.intro h (And.intro hc (And.intro hm (And.intro hsum (And.intro hpos hlen)))))
  clear h hc hm hsum hpos hlen
  obtain ⟨ii, iz, hii, hiz, hi1, hi2, hi3⟩ := ky_info'
  unfold maxLen at hd2
  go_enter Try.func37, Try.ntmps37
  go_wp2_with fail
  go_loopg [0, 5, 10] m (fun k kv v i wr => ∃ (j off d' : Nat) (A' : Option Addr) (G : List Ky), j + k = m ∧ i = .int .i64 j ∧ kv = .slice A' (n - off) d' ∧ n - off ≤ d' ∧ d' ≤ 9223372036854775807 ∧ off ≤ n ∧ KeysIn w A' (n - off) (ks.drop off) ∧ (cs.drop j).sum = n - off ∧ OwnY wr w.heap.size v j G ∧ Below w.heap.size w wr ∧ G ++ firstsS (ks.drop off) (cs.drop j) = firstsS ks cs)
  case atStart => exact ⟨0, 0, d, A, [], by omega, rfl, rfl, hd, hd2, by omega, H.out.1, H.out.2.2.2.1, OwnL.nil _ _ _, Below.refl _ _, rfl⟩
  case round =>
    obtain ⟨j, off, d', A', G, hj, rfl, rfl, hd', hd2', hoff, hk, hsm, ho, hb, heq⟩ := hrel
    have HX := Lib.hid (And.intro hj (And.intro hk (And.intro hsm (And.intro ho (And.intro hb heq)))))
    clear hj hk hsm ho hb heq
    by_cases hlt : j < m
    · obtain ⟨c, hc⟩ : ∃ c, cs[j]? = some c := ⟨_, List.getElem?_eq_getElem (by have := H.out.2.2.1; omega)⟩
      have hcd : cs.drop j = c :: cs.drop (j + 1) := by
        obtain ⟨h2, h3⟩ := List.getElem?_eq_some_iff.1 hc
        rw [List.drop_eq_getElem_cons h2, h3]
      have hc1 := H.out.2.2.2.2.1 c (List.mem_of_getElem? hc)
      have hsm := HX.out.2.2.1
      rw [hcd, List.sum_cons] at hsm
      obtain ⟨k, hk⟩ : ∃ k, (ks.drop off)[0]? = some k := ⟨_, List.getElem?_eq_getElem (by have := HX.out.2.1.1; omega)⟩
      have hkd : ks.drop off = k :: (ks.drop off).drop 1 := by
        obtain ⟨h2, h3⟩ := List.getElem?_eq_some_iff.1 hk
        conv => lhs; rw [← List.drop_zero (l := ks.drop off), List.drop_eq_getElem_cons h2, h3]
      have heq := HX.out.2.2.2.2.2
      rw [hcd, hkd, firstsS, ← hkd, List.drop_drop] at heq
      obtain ⟨okk, ad, hA, hblk, x0, x1, x2, x3⟩ := KeysIn.at_ HX.out.2.1 hk
      subst hA
      rw [Nat.zero_mul, add_zero] at hblk x0 x1 x2 x3
      have up : ∀ {p : Addr} {u : Value}, w.cell? p = some u → p.block < w.heap.size → wr.cell? p = some u := fun hu hp => (World.cell?_of_block (HX.out.2.2.2.2.1.block _ hp)).trans hu
      have p0 := up x0 hblk
      have p1 := up x1 hblk
      have p2 := up x2 hblk
      have p3 := up x3 hblk
      obtain ⟨adB, hB, hcB⟩ := (H.out.2.1.below HX.out.2.2.2.2.1) (by rw [iv_length]; have := H.out.2.2.1; omega)
      have y0 : wr.cell? (adB.add j) = some (.int .i64 (c : Int)) := hcB j _ (by unfold iv; rw [List.getElem?_map, hc]; rfl)
      subst hB
      have hnx := ListIn.dropK HX.out.2.1 c d' (by omega) hd'
      rw [List.drop_drop] at hnx
      have HV := Lib.hid (And.intro okk (And.intro heq (And.intro hnx (show (cs.drop (j + 1)).sum = n - (off + c) by omega))))
      clear x0 x1 x2 x3 up hk okk heq hcB hcd hkd hnx hc
      obtain ⟨fi, fa, fs, fc⟩ := k
      dsimp only at p0 p1 p2 p3 HV
      obtain ⟨N, hN⟩ : ∃ N, n - off = N := ⟨_, rfl⟩
      rw [hN] at hd' hsm ⊢
      have hjm : (j : Int) < (m : Int) := by omega
      have hN0 : (0 : Int) < (N : Int) := by omega
      have hcN : (c : Int) ≤ (N : Int) := by omega
      have hNd : (N : Int) ≤ (d' : Int) := by omega
      go_wp2_with (at_builtin; refine wpList_appL1 (cell := kyCells) (val := kyVal) (ok := okKy) (sz := 4) wr rfl _ _ 28 rfl w.heap.size 33 ii iz 40 Try.underlying28 hii hiz hi1 hi2 hi3 (by decide) ky_len ky_one u5 j G rfl HX.out.2.2.2.1 (⟨fi, fa, fs, fc⟩ : Ky) (.slice none 0 0) rfl HV.out.1 (noVal _ _) _ rfl ?_ ?_ ?_ ?_)
      · unfold maxLen; omega
      · omega
      · exact HX.out.2.2.2.2.1.size
      intro v2 w2 ho2 hg2 hv2
      have H2 := Lib.hid (And.intro ho2 (HX.out.2.2.2.2.1.grown hg2 HX.out.2.2.2.2.1.size (fun k e => (OwnL.blk HX.out.2.2.2.1 e).1)))
      clear ho2 hg2 hv2 p0 p1 p2 p3 y0
      have hNc : N - c = n - (off + c) := by omega
      by_cases hdc : d' = c
      · have hnx := HV.out.2.2.1
        rw [if_pos hdc, Nat.sub_sub] at hnx
        have HN := Lib.hid hnx
        clear hnx
        go_wp2_with fail
        go_roundg (m - (j + 1))
        case measure => have := HX.out.1; omega
        case rel => exact ⟨j + 1, off + c, 0, some ad, G ++ [⟨fi, fa, fs, fc⟩], by have := HX.out.1; omega, by go_num, by rw [← hNc], by omega, by omega, by omega, HN.out, HV.out.2.2.2, H2.out.1, H2.out.2, by rw [List.append_assoc]; exact HV.out.2.1⟩
      · have hnx := HV.out.2.2.1
        rw [if_neg hdc, Nat.sub_sub] at hnx
        have HN := Lib.hid hnx
        clear hnx
        go_wp2_with fail
        go_roundg (m - (j + 1))
        case measure => have := HX.out.1; omega
        case rel => exact ⟨j + 1, off + c, d' - c, some (ad.add (c * 4)), G ++ [⟨fi, fa, fs, fc⟩], by have := HX.out.1; omega, by go_num, by rw [← hNc], by omega, by omega, by omega, HN.out, HV.out.2.2.2, H2.out.1, H2.out.2, by rw [List.append_assoc]; exact HV.out.2.1⟩
    · obtain rfl : j = m := by have := HX.out.1; omega
      have hge : ¬ (j : Int) < (j : Int) := by omega
      have heq := HX.out.2.2.2.2.2
      have hG := OwnL.len HX.out.2.2.2.1
      rw [List.drop_of_length_le (l := cs) (by have := H.out.2.2.1; omega)] at heq
      have hnil : firstsS (ks.drop off) [] = [] := by unfold firstsS; rfl
      rw [hnil, List.append_nil] at heq
      have ho : OwnY wr w.heap.size u5 (firstsS ks cs).length (firstsS ks cs) := by
        rw [← heq, hG]
        exact HX.out.2.2.2.1
      have HO := Lib.hid ho
      clear heq hG hnil ho
      go_wp2_with fail
      go_ret
      exact ⟨_, rfl, HO.out, HX.out.2.2.2.2.1⟩
end Go.Proofs.Ytlioclicopakbaa
