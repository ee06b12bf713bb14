import Derived.Deep.RegionHeld3
import Derived.Lib.SliceRun
import Derived.Test.YtckpgbkabbddnaaMPlain
import Derived.Test.YtckpgbkabbddnaaStepPM
import Derived.Test.YtckpgbkabbddnaaCopyM
set_option linter.unusedVariables false
set_option linter.unusedSimpArgs false
/- The document's CopyFacts: contract. -/
namespace Go.Proofs.Ytckpgbkabbddnaa
open Go.RowKit

theorem fct_infoC : (Try.prog.info? 41).map (fun i => (i.zero.map (·.cells.size), i.size, i.bytes)) = some (some 5, 5, 64) := by kernel_rfl
theorem fct_infoC' : ∃ i z, Try.prog.info? 41 = some i ∧ i.zero = some z ∧ i.size = 5 ∧ i.bytes = 64 ∧ z.cells.size = 5 := by
  obtain ⟨i, hi, he⟩ := Option.map_eq_some_iff.1 fct_infoC
  simp only [Prod.mk.injEq] at he
  obtain ⟨z, hz, hz5⟩ := Option.map_eq_some_iff.1 he.1
  exact ⟨i, z, hi, hz, he.2.1, he.2.2, hz5⟩
theorem copy_n (w : World) (A : Option Addr) (n c : Nat) (xs : List UInt8) (hn : xs.length = n) (hr : RV w A (bv xs)) (hx : n ≤ 140737488355328) :
    Calls Try.prog 40 #[.slice A n c] w (OwnEnd w xs) := by
  subst hn
  exact copy_any w A c xs hr hx
theorem valB_ownC {e : TypeId} {w : World} {base : Nat} {v : Value} {x : List UInt8} {row : Option Nat} (h : OwnB e w base v x) (hr : ∀ k, row = some k → k < base) : ValB w row v x := by
  obtain ⟨A, c, hv, hrv, l1, l2, l3⟩ := h.slice
  refine ⟨A, c, hv, hrv, l1, l2, fun ad e1 hn he => ?_⟩
  have h1 := h.blk (l3 ad e1).symm
  have h2 := hr _ he.symm
  omega

set_option maxRecDepth 100000 in
set_option maxHeartbeats 4000000 in
theorem dCopyF_any (w : World) (A : Option Addr) (n d : Nat) (l : List Fct) (h : FctsIn w A n l) (hvl : ∀ f ∈ l, f.val.length ≤ 140737488351232) (hn : n * 64 ≤ 140737488351232) :
    Calls Try.prog 20 #[.slice A n d] w fun e w' => ∃ v, e = .returned v ∧ OwnL fctCells Fct.val (fun c => okKy c.key) 5 41 w' w.heap.size v n l ∧ Below w.heap.size w w' := by
  have H := Lib.hid (And.intro h (And.intro h.1 hvl))
  clear h hvl
  obtain ⟨ii, iz, hii, hiz, hi1, hi2, hi3⟩ := fct_infoC'
  go_enter Try.func20, Try.ntmps20
  go_wp2_with fail
  go_loopg [3, 4] n (fun k v i wr => ∃ (j : Nat) (ps : List (Fct × Value)), j + k = n ∧ i = .int .i64 j ∧ OwnPs fctCells Fct.val (fun c => okKy c.key) 5 41 wr w.heap.size v j ps ∧ ps.map (·.1) = l.take j ∧ Below w.heap.size w wr)
  case atStart => exact ⟨0, [], by omega, rfl, OwnPs.nil _ _ _, rfl, Below.refl _ _⟩
  case round =>
    obtain ⟨j, ps, hj, rfl, ho, hps, hb⟩ := hrel
    have HX := Lib.hid (And.intro hj (And.intro ho (And.intro hps hb)))
    have hbs := hb.size
    clear hj ho hps hb
    by_cases hlt : j < n
    · obtain ⟨f, hf⟩ : ∃ f, l[j]? = some f := ⟨_, List.getElem?_eq_getElem (by have := H.out.2.1; omega)⟩
      obtain ⟨okf, ad, B1, d1, hA, hr1, l1, l2, hblk, x0, x1, x2, x3, x4⟩ := FctsIn.at_ H.out.1 hf
      subst hA
      have up : ∀ {p : Addr} {u : Value}, w.cell? p = some u → p.block < w.heap.size → wr.cell? p = some u := fun hu hp => (World.cell?_of_block (HX.out.2.2.2.block _ hp)).trans hu
      have p0 := up x0 hblk
      have p1 := up x1 hblk
      have p2 := up x2 hblk
      have p3 := up x3 hblk
      have p4 := up x4 hblk
      have hjn : (j : Int) < (n : Int) := by omega
      obtain ⟨L, hL⟩ : ∃ L, f.val.length = L := ⟨_, rfl⟩
      have hLb := H.out.2.2 f (List.mem_of_getElem? hf)
      rw [hL] at p4 l1 hLb
      have hC := copy_n wr.drew B1 L d1 f.val hL ((hr1.below HX.out.2.2.2).drew) (by omega)
      have hbase : ∀ w2, Below w.heap.size w w2 → (w2.cell? (ad.add (j * 5)) = some (.int .i64 f.key.ino) ∧ w2.cell? ⟨(ad.add (j * 5)).block, (ad.add (j * 5)).off + 1, none⟩ = some (.int .u8 (f.key.what.toNat : Int)) ∧ w2.cell? ⟨(ad.add (j * 5)).block, (ad.add (j * 5)).off + 2, none⟩ = some (.string f.key.name) ∧ w2.cell? ⟨(ad.add (j * 5)).block, (ad.add (j * 5)).off + 3, none⟩ = some (.int .i64 f.key.chunk) ∧ w2.cell? ⟨(ad.add (j * 5)).block, (ad.add (j * 5)).off + 4, none⟩ = some (.slice B1 L d1)) := fun w2 hb2 => by
        have e := hb2.block _ hblk
        rw [← hL]
        exact ⟨(World.cell?_of_block e).trans x0, (World.cell?_of_block (a := ⟨(ad.add (j * 5)).block, (ad.add (j * 5)).off + 1, none⟩) e).trans x1, (World.cell?_of_block (a := ⟨(ad.add (j * 5)).block, (ad.add (j * 5)).off + 2, none⟩) e).trans x2, (World.cell?_of_block (a := ⟨(ad.add (j * 5)).block, (ad.add (j * 5)).off + 3, none⟩) e).trans x3, (World.cell?_of_block (a := ⟨(ad.add (j * 5)).block, (ad.add (j * 5)).off + 4, none⟩) e).trans x4⟩
      have HU := Lib.hid hbase
      have HC := Lib.hid hC
      have HV := Lib.hid (And.intro hf (And.intro okf hL))
      have hsz1 : j + 1 ≤ maxLen := by unfold maxLen; omega
      have hsz2 : (j + 1 + (j + 1) / 4 + 192) * 64 ≤ 281474976710656 := by omega
      have HSZ := Lib.hid (And.intro hsz1 hsz2)
      have hrow : ∀ k, u3.ownBlock = some k → w.heap.size ≤ k ∧ k < wr.heap.size := fun k hk => OwnPs.blk HX.out.2.1 hk
      have htk : l.take (j + 1) = l.take j ++ [f] := by rw [List.take_add_one, hf]; rfl
      have hk : ∀ (w2 : World) (A2 : Option Addr) (d2 : Nat), OwnB 5 w2 wr.drew.heap.size (.slice A2 f.val.length d2) f.val → Below wr.drew.heap.size wr.drew w2 →
          (w2.cell? (ad.add (j * 5)) = some (.int .i64 f.key.ino) ∧ w2.cell? ⟨(ad.add (j * 5)).block, (ad.add (j * 5)).off + 1, none⟩ = some (.int .u8 (f.key.what.toNat : Int)) ∧ w2.cell? ⟨(ad.add (j * 5)).block, (ad.add (j * 5)).off + 2, none⟩ = some (.string f.key.name) ∧ w2.cell? ⟨(ad.add (j * 5)).block, (ad.add (j * 5)).off + 3, none⟩ = some (.int .i64 f.key.chunk) ∧ w2.cell? ⟨(ad.add (j * 5)).block, (ad.add (j * 5)).off + 4, none⟩ = some (.slice B1 L d1)) ∧
          Hid (OwnPs fctCells Fct.val (fun c => okKy c.key) 5 41 w2 w.heap.size u3 j ps ∧ ValB w2 u3.ownBlock (.slice A2 L d2) f.val ∧ w.heap.size ≤ w2.heap.size ∧ ∀ (v3 : Value) (w3 : World), OwnPs fctCells Fct.val (fun c => okKy c.key) 5 41 w3 w.heap.size v3 (j + 1) (ps ++ [(f, .slice A2 L d2)]) → w2.grownBy w3 u3.ownBlock →
            (w3.cell? (ad.add (j * 5)) = some (.int .i64 f.key.ino) ∧ w3.cell? ⟨(ad.add (j * 5)).block, (ad.add (j * 5)).off + 1, none⟩ = some (.int .u8 (f.key.what.toNat : Int)) ∧ w3.cell? ⟨(ad.add (j * 5)).block, (ad.add (j * 5)).off + 2, none⟩ = some (.string f.key.name) ∧ w3.cell? ⟨(ad.add (j * 5)).block, (ad.add (j * 5)).off + 3, none⟩ = some (.int .i64 f.key.chunk) ∧ w3.cell? ⟨(ad.add (j * 5)).block, (ad.add (j * 5)).off + 4, none⟩ = some (.slice B1 L d1)) ∧
            Hid (OwnPs fctCells Fct.val (fun c => okKy c.key) 5 41 w3 w.heap.size v3 (j + 1) (ps ++ [(f, .slice A2 L d2)]) ∧ (ps ++ [(f, Value.slice A2 L d2)]).map (·.1) = l.take (j + 1) ∧ Below w.heap.size w w3)) := fun w2 A2 d2 ho2 hb2 => by
        have hb : Below wr.heap.size wr w2 := below_then (Below.refl wr.heap.size wr).drew (Nat.le_refl _) hb2
        have hbw := below_then HX.out.2.2.2 hbs hb
        refine ⟨hbase w2 hbw, OwnPs.below HX.out.2.1 hb, ?_, hbw.size, fun v3 w3 ho3 hg3 => ?_⟩
        · rw [← hL]
          exact valB_ownC ho2 fun k hk => (hrow k hk).2
        · have hb3 := hbw.grown hg3 hbw.size (fun k e => (hrow k e).1)
          exact ⟨hbase w3 hb3, ho3, by rw [List.map_append, HX.out.2.2.1, htk]; rfl, hb3⟩
      have HK := Lib.hid hk
      clear x0 x1 x2 x3 x4 up hC hr1 hf okf hbase hk hrow htk hsz1 hsz2
      obtain ⟨⟨fi, fa, fs, fc⟩, fv⟩ := f
      dsimp only at p0 p1 p2 p3 p4 HU HC HV HK
      go_wp2_with fail
      go_region_held3 (fun w' => w'.cell? (ad.add (j * 5)) = some (.int .i64 fi) ∧ w'.cell? ⟨(ad.add (j * 5)).block, (ad.add (j * 5)).off + 1, none⟩ = some (.int .u8 (fa.toNat : Int)) ∧ w'.cell? ⟨(ad.add (j * 5)).block, (ad.add (j * 5)).off + 2, none⟩ = some (.string fs) ∧ w'.cell? ⟨(ad.add (j * 5)).block, (ad.add (j * 5)).off + 3, none⟩ = some (.int .i64 fc) ∧ w'.cell? ⟨(ad.add (j * 5)).block, (ad.add (j * 5)).off + 4, none⟩ = some (.slice B1 L d1))
        (first | exact ⟨p0, p1, p2, p3, p4⟩ | exact hq | exact hq' | exact ⟨Lib.cell?_alloc_some _ hq.1, Lib.cell?_alloc_some _ hq.2.1, Lib.cell?_alloc_some _ hq.2.2.1, Lib.cell?_alloc_some _ hq.2.2.2.1, Lib.cell?_alloc_some _ hq.2.2.2.2⟩)
        (first
          | (go_at_call 40; refine HC.out.mono ?_; rintro e w2 ⟨v2, rfl, ho2, hb2⟩; obtain ⟨A2, d2, rfl, hrv2, hl2, hm2, _⟩ := ho2.slice; rw [HV.out.2.2]; obtain ⟨hq, HQ⟩ := HK.out w2 A2 d2 ho2 hb2; clear ho2 hb2 hrv2)
          | (refine step_appP1 (cell := fctCells) (val := Fct.val) (ok := fun c => okKy c.key) (sz := 5) w2 rfl (.tmp 11) (.tmp 24) 22 rfl w.heap.size 41 ii iz 64 Try.underlying22 hii hiz hi1 hi2 hi3 (by decide) fct_len fct_one u3 j ps (by simp [Act.eval, Act.put]) HQ.out.1 ⟨⟨fi, fa, fs, fc⟩, fv⟩ (.slice A2 L d2) (by simp [Act.eval, Act.put]) HV.out.2.1 HQ.out.2.1 _ (by unfold fctCells; simp) HSZ.out.1 HSZ.out.2 HQ.out.2.2.1 ?_; intro v3 w3 ho3 hg3 hv3; obtain ⟨hq', HR⟩ := HQ.out.2.2.2 v3 w3 ho3 hg3; clear ho3 hg3 hv3))
      all_goals
        go_wp2_with fail
        go_roundg (n - (j + 1))
        case measure => have := HX.out.1; omega
        case rel => exact ⟨j + 1, _, by have := HX.out.1; omega, by go_num, HR.out.1, HR.out.2.1, HR.out.2.2⟩
    · obtain rfl : j = n := by have := HX.out.1; omega
      have hge : ¬ (j : Int) < (j : Int) := by omega
      have hps := HX.out.2.2.1
      rw [List.take_of_length_le (by have := H.out.2.1; omega)] at hps
      have HF := Lib.hid (And.intro (OwnPs.list HX.out.2.1) hps)
      clear hps
      go_wp2_with fail
      go_ret
      have h1 := HF.out.1
      rw [HF.out.2] at h1
      exact ⟨_, rfl, h1, HX.out.2.2.2⟩
end Go.Proofs.Ytckpgbkabbddnaa
