import Derived.Test.YtlcdabmclcfagaaNdOM
import Derived.Test.YtlcdabmclcfagaaNdBoM
import Derived.Test.YtlcdabmclcfagaaNdAM
set_option linter.unusedVariables false
set_option linter.unusedSimpArgs false
/- Layer 3: a chip that is made. -/
namespace Go.Proofs.Ytlcdabmclcfagaa
open Go.RowKit

def bkCells (l : List UInt8) (v : Value) : List Value := [v]
theorem bk_len (c : List UInt8) (v : Value) : (bkCells c v).length = 1 := rfl
theorem bk_one (c : List UInt8) (A : Option Addr) (n d : Nat) : ∀ u ∈ bkCells c (.slice A n d), u.oneCell' = true := by
  intro u hu
  simp only [bkCells, List.mem_cons, List.not_mem_nil, or_false] at hu
  subst hu
  rfl
theorem bk_info : (Try.prog.info? 22).map (fun i => (i.zero.map (·.cells.size), i.size, i.bytes)) = some (some 1, 1, 24) := by kernel_rfl
theorem bk_info' : ∃ i z, Try.prog.info? 22 = some i ∧ i.zero = some z ∧ i.size = 1 ∧ i.bytes = 24 ∧ z.cells.size = 1 := by
  obtain ⟨i, hi, he⟩ := Option.map_eq_some_iff.1 bk_info
  simp only [Prod.mk.injEq] at he
  obtain ⟨z, hz, hz5⟩ := Option.map_eq_some_iff.1 he.1
  exact ⟨i, z, hi, hz, he.2.1, he.2.2, hz5⟩
abbrev OwnBk (w : World) (base : Nat) (v : Value) (n : Nat) (ps : List (List UInt8 × Value)) : Prop := OwnZ bkCells id 1 22 w base v n ps
/-- No two of the rows share their memory. -/
def Apt (ps : List (List UInt8 × Value)) : Prop := ∀ (i j : Nat) (p q : List UInt8 × Value), ps[i]? = some p → ps[j]? = some q → p.2.ownBlock = q.2.ownBlock → i = j
theorem Apt.nil : Apt [] := fun i j p q h => by simp at h
theorem Apt.snoc {ps : List (List UInt8 × Value)} {x : List UInt8 × Value} (h : Apt ps) (hx : ∀ p ∈ ps, p.2.ownBlock ≠ x.2.ownBlock) : Apt (ps ++ [x]) := by
  intro i j p q hi hj he
  have hlt : ∀ k y, (ps ++ [x])[k]? = some y → (k < ps.length ∧ ps[k]? = some y) ∨ (k = ps.length ∧ y = x) := by
    intro k y hk
    by_cases hkl : k < ps.length
    · left
      rw [List.getElem?_append_left hkl] at hk
      exact ⟨hkl, hk⟩
    · right
      rw [List.getElem?_append_right (by omega)] at hk
      have : k - ps.length = 0 := by
        have := (List.getElem?_eq_some_iff.1 hk).1
        simpa using this
      rw [this] at hk
      simp at hk
      exact ⟨by omega, hk.symm⟩
  rcases hlt i p hi with ⟨_, h1⟩ | ⟨h1, rfl⟩
  · rcases hlt j q hj with ⟨_, h2⟩ | ⟨h2, rfl⟩
    · exact h i j p q h1 h2 he
    · exact absurd he (hx p (List.mem_of_getElem? h1))
  · rcases hlt j q hj with ⟨_, h2⟩ | ⟨h2, rfl⟩
    · exact absurd he.symm (hx q (List.mem_of_getElem? h2))
    · omega
theorem OwnZ.fresh_blk {w w' : World} {base : Nat} {v : Value} {n : Nat} {ps : List (List UInt8 × Value)} (h : OwnBk w base v n ps) (hne : ∀ p ∈ ps, p.1 ≠ []) {u : Value} {x : List UInt8} (hu : OwnB 5 w' w.heap.size u x) : ∀ p ∈ ps, p.2.ownBlock ≠ u.ownBlock := by
  intro p hp e
  obtain ⟨A, c, e1, hr, _, _, l3⟩ := (h.2 p hp).1.slice
  have hpos : 0 < p.1.length := List.length_pos_iff.2 (hne p hp)
  obtain ⟨ad, hA, _⟩ := hr (by rw [bv_length]; exact hpos)
  have h1 := (l3 ad hA).symm
  have h2 := (h.vblk hp h1).2
  rw [e] at h1
  have h3 := (hu.blk h1).1
  omega
theorem choose_fun {α : Type} {p : Nat → α → Prop} (h : ∀ i, ∃ x, p i x) : ∃ f : Nat → α, ∀ i, p i (f i) := ⟨fun i => Classical.choose (h i), fun i => Classical.choose_spec (h i)⟩
def madeCells_ (B P S Sp : Nat) (v : Value) (kd cd : Nat) : Array Value :=
  #[.int .i64 (B : Int), .int .i64 (P : Int), .int .i64 (S : Int), .int .i64 (Sp : Int), v, .slice (some ⟨kd, 0, none⟩) B cd, .slice none 0 0, .int .i64 0, .bool false, .int .i64 0]
theorem PCx.make {w : World} {lo base g kd cd : Nat} {v : Value} {ps : List (List UInt8 × Value)} {td : List Value} {c : Chp} (ok : ChOk c) (hh : c.hits = [] ∧ c.since = 0 ∧ c.dead = false ∧ c.deeds = 0)
    (hblk : Blk w g 65 (madeCells_ c.B c.P c.S c.Sp v kd cd)) (hown : OwnBk w base v c.B ps) (hps : ps.map (·.1) = (List.range c.B).map c.row) (hapt : Apt ps)
    (hkd : Blk w kd 4 (c.bad.map Value.bool ++ td).toArray) (hcd : c.B + td.length = cd ∧ cd ≤ maxLen) (hg : lo ≤ g ∧ g < base) (hk : lo ≤ kd ∧ kd < base) (hne : g ≠ kd) : PC w (fun k => lo ≤ k ∧ k < w.heap.size) g c := by
  have hN := ok.n
  have hB := ok.b1
  obtain ⟨A, cap, hv, h1, h2, h3, h4⟩ := hown.slice
  obtain ⟨ad, hA⟩ := h4 (by omega)
  obtain ⟨ga, rfl, hga⟩ := h3 ad hA
  subst hA
  have hgab := hown.blk hga
  have hat : ∀ i, ∃ x : Nat × List UInt8, i < c.B → ∃ p, ps[i]? = some p ∧ p.2.ownBlock = some x.1 ∧ base ≤ x.1 ∧ x.1 < w.heap.size ∧ RowB 5 w x.1 (c.row i ++ x.2) ∧ c.N + x.2.length ≤ maxLen ∧ w.cell? ⟨ga, i, none⟩ = some (.slice (some ⟨x.1, 0, none⟩) c.N (c.N + x.2.length)) := by
    intro i
    by_cases hi : i < c.B
    · obtain ⟨p, hp⟩ : ∃ p, ps[i]? = some p := ⟨_, List.getElem?_eq_getElem (by have := hown.len; omega)⟩
      have hp1 : p.1 = c.row i := by
        have e1 : (ps.map (·.1))[i]? = some p.1 := by rw [List.getElem?_map, hp]; rfl
        rw [hps, List.getElem?_map, List.getElem?_range hi] at e1
        exact (Option.some.inj e1).symm
      have hl := ok.row_len hi
      have hpc := hown.at_ bk_len hga hp (k := 0) (u := p.2) rfl
      rw [Nat.mul_one, Nat.add_zero] at hpc
      have hob : OwnB 5 w base p.2 (c.row i) := by
        have h := (hown.2 p (List.mem_of_getElem? hp)).1
        rw [hp1] at h
        exact h
      rcases hob with ⟨_, h0⟩ | ⟨gi, full, e1, e2, e3, e4, e5⟩
      · rw [h0] at hl
        simp at hl
        omega
      · rw [hl] at e1 e4
        have hlen : c.N ≤ full.length := by
          have := congrArg List.length e4
          rw [List.length_take, hl] at this
          omega
        have hfull : c.row i ++ full.drop c.N = full := by rw [← e4, List.take_append_drop]
        refine ⟨(gi, full.drop c.N), fun _ => ⟨p, hp, by rw [e1]; rfl, e2, e3.lt, by rw [hfull]; exact e3, ?_, ?_⟩⟩
        · rw [List.length_drop]
          omega
        · rw [hpc, e1, List.length_drop]
          congr 2
          omega
    · exact ⟨(0, []), fun h => absurd h hi⟩
  obtain ⟨f, hf⟩ := choose_fun hat
  refine ⟨⟨ga, kd, cap, cd, 0, fun i => (f i).1, fun i => (f i).2, td, none⟩, ok, ?_, fun i hi => ?_, hkd, fun i hi => ?_, ?_, ⟨h1, h2⟩, hcd, ?_, fun i hi => ?_, hne, fun i hi => ?_, fun i j hi hj e => ?_, ?_, ?_, fun i hi => ?_, fun k hk => hk.2⟩
  · unfold madeCells_ at hblk
    unfold chipCells
    dsimp only
    rw [hh.1, hh.2.1, hh.2.2.1, hh.2.2.2]
    rw [hv] at hblk
    exact hblk
  · obtain ⟨p, _, _, _, _, _, _, h⟩ := hf i hi
    exact h
  · obtain ⟨p, _, _, _, _, h, _, _⟩ := hf i hi
    exact h
  · rw [hh.1]
    exact HitsP.nil _ _ _
  · rw [hh.1]
    exact ⟨Nat.le_refl _, Nat.zero_le _⟩
  · obtain ⟨p, _, _, _, _, _, h, _⟩ := hf i hi
    exact h
  · obtain ⟨p, _, _, h, _, _, _, _⟩ := hf i hi
    exact ⟨by show (f i).1 ≠ g; omega, by show (f i).1 ≠ kd; omega⟩
  · obtain ⟨p, hp, hpb, _⟩ := hf i hi
    obtain ⟨q, hq, hqb, _⟩ := hf j hj
    exact hapt i j p q hp hq (by rw [hpb, hqb]; exact congrArg some e)
  · refine ⟨by show ga ≠ g; omega, by show ga ≠ kd; omega, fun i hi e => ?_⟩
    obtain ⟨p, hp, hpb, _⟩ := hf i hi
    have h1 := (hown.2 p (List.mem_of_getElem? hp)).2
    rw [hpb, hga] at h1
    rcases h1 with h1 | h1
    · cases h1
    · exact h1 (congrArg some (show (f i).1 = ga from e.symm))
  · have h1 := hblk.lt
    have h2 := hkd.lt
    exact ⟨⟨hg.1, h1⟩, ⟨hk.1, h2⟩, ⟨by show lo ≤ ga; omega, hgab.2⟩⟩
  · obtain ⟨p, _, _, h5, h6, _, _, _⟩ := hf i hi
    exact ⟨by show lo ≤ (f i).1; omega, h6⟩
end Go.Proofs.Ytlcdabmclcfagaa
