import Derived.Test.YtckpgbkabbddnaaMRows
import Derived.Test.YtckpgbkabbddnaaRecTM
import Derived.Test.YtckpgbkabbddnaaMBase
import Derived.Test.YtckpgbkabbddnaaReadM
set_option linter.unusedVariables false
set_option linter.unusedSimpArgs false
/- Facts and changes in memory. -/
namespace Go.Proofs.Ytckpgbkabbddnaa
open Go.RowKit

/-- A fact. -/
structure Fct where
  key : Ky
  val : List UInt8
deriving DecidableEq
def chgCells (c : Chg) (v : Value) : List Value := [.int .i64 c.key.ino, .int .u8 (c.key.what.toNat : Int), .string c.key.name, .int .i64 c.key.chunk, v, .bool c.gone]
def fctCells (f : Fct) (v : Value) : List Value := [.int .i64 f.key.ino, .int .u8 (f.key.what.toNat : Int), .string f.key.name, .int .i64 f.key.chunk, v]
def okKy (k : Ky) : Prop := k.name.size ≤ maxLen
abbrev ChgsIn (w : World) (A : Option Addr) (n : Nat) (l : List Chg) : Prop := ListIn chgCells Chg.val (fun c => okKy c.key) 6 w A n l
abbrev FctsIn (w : World) (A : Option Addr) (n : Nat) (l : List Fct) : Prop := ListIn fctCells Fct.val (fun c => okKy c.key) 5 w A n l
theorem chg_len (c : Chg) (v : Value) : (chgCells c v).length = 6 := rfl
theorem fct_len (c : Fct) (v : Value) : (fctCells c v).length = 5 := rfl
theorem chg_one (c : Chg) (A : Option Addr) (n d : Nat) : ∀ u ∈ chgCells c (.slice A n d), u.oneCell' = true := by
  intro u hu
  simp only [chgCells, List.mem_cons, List.not_mem_nil, or_false] at hu
  rcases hu with rfl | rfl | rfl | rfl | rfl | rfl <;> rfl
theorem fct_one (c : Fct) (A : Option Addr) (n d : Nat) : ∀ u ∈ fctCells c (.slice A n d), u.oneCell' = true := by
  intro u hu
  simp only [fctCells, List.mem_cons, List.not_mem_nil, or_false] at hu
  rcases hu with rfl | rfl | rfl | rfl | rfl <;> rfl
/-- A change, cell by cell. -/
theorem ChgsIn.at_ {w : World} {A : Option Addr} {n : Nat} {l : List Chg} (h : ChgsIn w A n l) {i : Nat} {c : Chg} (hi : l[i]? = some c) :
    okKy c.key ∧ ∃ ad B d, A = some ad ∧ RV w B (bv c.val) ∧ c.val.length ≤ d ∧ d ≤ maxLen ∧ (ad.add (i * 6)).block < w.heap.size ∧
      w.cell? (ad.add (i * 6)) = some (.int .i64 c.key.ino) ∧ w.cell? ⟨(ad.add (i * 6)).block, (ad.add (i * 6)).off + 1, none⟩ = some (.int .u8 (c.key.what.toNat : Int)) ∧ w.cell? ⟨(ad.add (i * 6)).block, (ad.add (i * 6)).off + 2, none⟩ = some (.string c.key.name) ∧
      w.cell? ⟨(ad.add (i * 6)).block, (ad.add (i * 6)).off + 3, none⟩ = some (.int .i64 c.key.chunk) ∧ w.cell? ⟨(ad.add (i * 6)).block, (ad.add (i * 6)).off + 4, none⟩ = some (.slice B c.val.length d) ∧ w.cell? ⟨(ad.add (i * 6)).block, (ad.add (i * 6)).off + 5, none⟩ = some (.bool c.gone) := by
  obtain ⟨h1, ad, v, h2, ⟨B, d, hv, hr, l1, l2, _⟩, h4⟩ := h.2 i c hi
  subst hv
  have c0 := h4 0 _ rfl
  rw [add_zero] at c0
  exact ⟨h1, ad, B, d, h2, hr, l1, l2, World.block_lt_of_cell? w _ c0, c0, h4 1 _ rfl, h4 2 _ rfl, h4 3 _ rfl, h4 4 _ rfl, h4 5 _ rfl⟩
theorem FctsIn.at_ {w : World} {A : Option Addr} {n : Nat} {l : List Fct} (h : FctsIn w A n l) {i : Nat} {c : Fct} (hi : l[i]? = some c) :
    okKy c.key ∧ ∃ ad B d, A = some ad ∧ RV w B (bv c.val) ∧ c.val.length ≤ d ∧ d ≤ maxLen ∧ (ad.add (i * 5)).block < w.heap.size ∧
      w.cell? (ad.add (i * 5)) = some (.int .i64 c.key.ino) ∧ w.cell? ⟨(ad.add (i * 5)).block, (ad.add (i * 5)).off + 1, none⟩ = some (.int .u8 (c.key.what.toNat : Int)) ∧ w.cell? ⟨(ad.add (i * 5)).block, (ad.add (i * 5)).off + 2, none⟩ = some (.string c.key.name) ∧
      w.cell? ⟨(ad.add (i * 5)).block, (ad.add (i * 5)).off + 3, none⟩ = some (.int .i64 c.key.chunk) ∧ w.cell? ⟨(ad.add (i * 5)).block, (ad.add (i * 5)).off + 4, none⟩ = some (.slice B c.val.length d) := by
  obtain ⟨h1, ad, v, h2, ⟨B, d, hv, hr, l1, l2, _⟩, h4⟩ := h.2 i c hi
  subst hv
  have c0 := h4 0 _ rfl
  rw [add_zero] at c0
  exact ⟨h1, ad, B, d, h2, hr, l1, l2, World.block_lt_of_cell? w _ c0, c0, h4 1 _ rfl, h4 2 _ rfl, h4 3 _ rfl, h4 4 _ rfl⟩
def bodyS' (l : List Chg) : List UInt8 × Bool := if bodyOk l then (bodyB l, true) else ([], false)
theorem flat_chg_le (l : List Chg) (h : ∀ c ∈ l, chgOk c) : (l.flatMap chgB).length ≤ 273 * l.length := by
  induction l with
  | nil => simp
  | cons a l ih =>
    have h1 := chgB_length (h a (by simp))
    have h2 := ih fun c hc => h c (by simp [hc])
    simp only [List.flatMap_cons, List.length_append, List.length_cons]
    omega
end Go.Proofs.Ytckpgbkabbddnaa

/- Facts in a row; a change that is done; plain. -/
namespace Go.Proofs.Ytckpgbkabbddnaa
open Go.RowKit

/-- Facts in order. -/
def ordB : List Fct → Bool
  | a :: b :: r => decide (keyLt a.key b.key) && ordB (b :: r)
  | _ => true
theorem ordB_iff : ∀ l : List Fct, ordB l = true ↔ ∀ i a b, l[i]? = some a → l[i + 1]? = some b → keyLt a.key b.key
  | [] => ⟨fun _ i a b h => by simp at h, fun _ => rfl⟩
  | [x] => ⟨fun _ i a b h h' => by simp at h', fun _ => rfl⟩
  | x :: y :: r => by
    have ih := ordB_iff (y :: r)
    simp only [ordB, Bool.and_eq_true, decide_eq_true_eq, ih]
    constructor
    · rintro ⟨h1, h2⟩ i a b ha hb
      cases i with
      | zero => simp at ha hb; rw [← ha, ← hb]; exact h1
      | succ i => exact h2 i a b (by simpa using ha) (by simpa using hb)
    · intro h
      exact ⟨h 0 x y rfl rfl, fun i a b ha hb => h (i + 1) a b (by simpa using ha) (by simpa using hb)⟩
/-- One change, done to facts. -/
def oneGo (c : Fct) : List Fct → Bool → List Fct
  | [], done => if done = true then [] else [c]
  | f :: r, done =>
    if f.key = c.key then (if done = true then [] else [c]) ++ oneGo c r true
    else if done = false ∧ keyLt c.key f.key then c :: f :: oneGo c r true
    else f :: oneGo c r done
def oneF (l : List Fct) (c : Chg) : List Fct := oneGo ⟨c.key, c.val⟩ l c.gone
def applyF (l : List Fct) (cs : List Chg) : List Fct := if ordB l = true then cs.foldl oneF l else []
/-- A change of a key behind all. -/
theorem oneGo_last (c : Fct) : ∀ l : List Fct, (∀ f ∈ l, keyLt f.key c.key) → oneGo c l false = l ++ [c]
  | [], _ => rfl
  | f :: r, h => by
    have h1 := h f (by simp)
    have ih := oneGo_last c r fun g hg => h g (by simp [hg])
    rw [oneGo, if_neg (keyLt_ne h1), if_neg (fun hh => keyLt_asymm h1 hh.2), ih]
    rfl
theorem oneGo_len (c : Fct) : ∀ (l : List Fct) (d : Bool), (oneGo c l d).length ≤ l.length + 1
  | [], d => by unfold oneGo; split <;> simp
  | f :: r, d => by
    have i1 := oneGo_len c r true
    have i2 := oneGo_len c r d
    have i3 : ∀ r : List Fct, (oneGo c r true).length ≤ r.length := by
      intro r
      induction r with
      | nil => simp [oneGo]
      | cons g r ih =>
        unfold oneGo
        split
        · simp; omega
        · rw [if_neg (by simp)]; simp; omega
    have i4 := i3 r
    unfold oneGo
    split
    · split
      · simp; omega
      · simp; omega
    · split
      · simp; omega
      · simp; omega
end Go.Proofs.Ytckpgbkabbddnaa

/- Keys that are taken off, plain. -/
namespace Go.Proofs.Ytckpgbkabbddnaa
open Go.RowKit

def Ky.zero : Ky := ⟨0, 0, ⟨#[]⟩, 0⟩
def finK (k : Ky) (st : Option (List UInt8)) : Ky × Nat × Option (List UInt8) := if mayK k then (k, 0, st) else (Ky.zero, 5, st)
/-- The next key: it, an error, what is left. -/
def getKeyS : Option (List UInt8) → Ky × Nat × Option (List UInt8)
  | some (a :: b :: c :: r) =>
    if c = 2 then
      if (rowS (some r)).2.1 ≠ 0 then (Ky.zero, 4, none) else finK ⟨((a.toNat + 256 * b.toNat : Nat) : Int), c, ⟨(rowS (some r)).1.toArray⟩, 0⟩ (rowS (some r)).2.2
    else if c = 3 then
      match r with
      | [] => (Ky.zero, 4, none)
      | d :: r' => finK ⟨((a.toNat + 256 * b.toNat : Nat) : Int), c, ⟨#[]⟩, (d.toNat : Int)⟩ (some r')
    else finK ⟨((a.toNat + 256 * b.toNat : Nat) : Int), c, ⟨#[]⟩, 0⟩ (some r)
  | _ => (Ky.zero, 4, none)
/-- There are three bytes at least, or what is answered is an error. -/
theorem getKeyS_short {st : Option (List UInt8)} (h : ∀ a b c r, st ≠ some (a :: b :: c :: r)) : getKeyS st = (Ky.zero, 4, none) := by
  cases st with
  | none => rfl
  | some l =>
    match l with
    | [] => rfl
    | [_] => rfl
    | [_, _] => rfl
    | a :: b :: c :: r => exact absurd rfl (h a b c r)
theorem short_take {st : Option (List UInt8)} (h : ∀ a b c r, st ≠ some (a :: b :: c :: r)) : ((takeS st 2).2.1 = 0 ∨ (takeS st 2).2.1 = 4) ∧ (takeS st 2).1 < 65536 ∧ takeS (takeS st 2).2.2 1 = (0, 4, none) := by
  cases st with
  | none => exact ⟨.inr rfl, by decide, rfl⟩
  | some l =>
    match l with
    | [] => exact ⟨.inr rfl, by decide, rfl⟩
    | [_] => exact ⟨.inr rfl, by simp [takeS], rfl⟩
    | [a, b] =>
      have h1 := a.toNat_lt
      have h2 := b.toNat_lt
      refine ⟨.inl (by simp [takeS]), ?_, by simp [takeS]⟩
      simp [takeS, leval]
      omega
    | a :: b :: c :: r => exact absurd rfl (h a b c r)
end Go.Proofs.Ytckpgbkabbddnaa

/- Changes, plain: their bytes, what bodies say. -/
namespace Go.Proofs.Ytckpgbkabbddnaa
open Go.RowKit

/-- The next change: it, an error, what is left. -/
def Chg.zero : Chg := ⟨Ky.zero, [], false⟩
def oneS (st : Option (List UInt8)) : Chg × Nat × Option (List UInt8) :=
  match st with
  | some (f :: r) =>
    if 1 < f.toNat then (Chg.zero, 5, some r)
    else if (getKeyS (some r)).2.1 ≠ 0 ∨ f.toNat = 0 then (⟨(getKeyS (some r)).1, [], decide ((getKeyS (some r)).2.1 = 0)⟩, (getKeyS (some r)).2.1, (getKeyS (some r)).2.2)
    else if (rowS (getKeyS (some r)).2.2).2.1 = 0 ∧ (rowS (getKeyS (some r)).2.2).1.length = 0 then (⟨(getKeyS (some r)).1, [], false⟩, 5, (rowS (getKeyS (some r)).2.2).2.2)
    else (⟨(getKeyS (some r)).1, (rowS (getKeyS (some r)).2.2).1, false⟩, (rowS (getKeyS (some r)).2.2).2.1, (rowS (getKeyS (some r)).2.2).2.2)
  | _ => (Chg.zero, 4, none)
end Go.Proofs.Ytckpgbkabbddnaa

/- What a body says, plain. -/
namespace Go.Proofs.Ytckpgbkabbddnaa
open Go.RowKit

/-- So many changes, one behind the other. -/
def getsGo : Nat → Option (List UInt8) → List Chg × Nat × Option (List UInt8)
  | 0, st => ([], 0, st)
  | k + 1, st =>
    if (oneS st).2.1 ≠ 0 then ([], (oneS st).2.1, (oneS st).2.2)
    else if (getsGo k (oneS st).2.2).2.1 ≠ 0 then ([], (getsGo k (oneS st).2.2).2.1, (getsGo k (oneS st).2.2).2.2)
    else ((oneS st).1 :: (getsGo k (oneS st).2.2).1, 0, (getsGo k (oneS st).2.2).2.2)
def addGo (acc : List Chg) (g : List Chg × Nat × Option (List UInt8)) : List Chg × Nat × Option (List UInt8) := if g.2.1 ≠ 0 then ([], g.2.1, g.2.2) else (acc ++ g.1, 0, g.2.2)
theorem getsGo_no {k : Nat} {st : Option (List UInt8)} (h : (getsGo k st).2.1 ≠ 0) : (getsGo k st).1 = [] := by
  cases k with
  | zero => exact absurd rfl h
  | succ k =>
    unfold getsGo at h ⊢
    split
    · rfl
    · rename_i h1
      rw [if_neg h1] at h
      split
      · rfl
      · rename_i h2
        rw [if_neg h2] at h
        exact absurd rfl h
theorem addGo_nil (k : Nat) (st : Option (List UInt8)) : addGo [] (getsGo k st) = getsGo k st := by
  unfold addGo
  split
  · rename_i h
    rw [← getsGo_no h]
  · rename_i h
    have : (getsGo k st).2.1 = 0 := by omega
    rw [List.nil_append, ← this]
theorem addGo_step (acc : List Chg) (k : Nat) (st : Option (List UInt8)) (h : (oneS st).2.1 = 0) : addGo acc (getsGo (k + 1) st) = addGo (acc ++ [(oneS st).1]) (getsGo k (oneS st).2.2) := by
  rw [getsGo, if_neg (by omega)]
  unfold addGo
  by_cases h2 : (getsGo k (oneS st).2.2).2.1 ≠ 0
  · rw [if_pos h2, if_pos h2]
    simp only
    rw [if_pos h2]
  · rw [if_neg h2, if_neg h2]
    simp
theorem addGo_no (acc : List Chg) (k : Nat) (st : Option (List UInt8)) (h : (oneS st).2.1 ≠ 0) : addGo acc (getsGo (k + 1) st) = ([], (oneS st).2.1, (oneS st).2.2) := by
  rw [getsGo, if_pos h]
  unfold addGo
  simp only
  rw [if_pos h]
theorem getKeyS_name (st : Option (List UInt8)) : (getKeyS st).1.name.size ≤ 255 := by
  have hf : ∀ k st', k.name.size ≤ 255 → (finK k st').1.name.size ≤ 255 := fun k st' h => by
    unfold finK
    split
    · exact h
    · exact Nat.zero_le _
  have hz : Ky.zero.name.size ≤ 255 := Nat.zero_le _
  have hl : ∀ r : List UInt8, (⟨(rowS (some r)).1.toArray⟩ : ByteArray).size ≤ 255 := by
    intro r
    have h0 : (⟨(rowS (some r)).1.toArray⟩ : ByteArray).size = (rowS (some r)).1.length := by simp [ByteArray.size]
    rw [h0]
    unfold rowS
    split
    · simp
    · simp
    · rename_i b l _
      have := b.toNat_lt
      split
      · simp
      · simp only [List.length_take]
        omega
  match st with
  | none => exact hz
  | some [] => exact hz
  | some [_] => exact hz
  | some [_, _] => exact hz
  | some (a :: b :: c :: r) =>
    unfold getKeyS
    dsimp only
    split
    · split
      · exact hz
      · exact hf _ _ (hl r)
    · split
      · cases r with
        | nil => exact hz
        | cons d r => exact hf _ _ (Nat.zero_le _)
      · exact hf _ _ (Nat.zero_le _)
theorem oneS_name (st : Option (List UInt8)) : (oneS st).1.key.name.size ≤ maxLen := by
  have h : ∀ s, (getKeyS s).1.name.size ≤ maxLen := fun s => Nat.le_trans (getKeyS_name s) (by decide)
  unfold oneS
  split
  · split
    · exact Nat.zero_le _
    · split
      · exact h _
      · split
        · exact h _
        · exact h _
  · exact Nat.zero_le _
theorem oneS_code (st : Option (List UInt8)) (hk : ∀ s, (getKeyS s).2.1 ≤ 5) : (oneS st).2.1 ≤ 5 := by
  have hr : ∀ s, (rowS s).2.1 ≤ 5 := fun s => by
    unfold rowS
    split
    · simp
    · simp
    · split <;> simp
  unfold oneS
  split
  · split
    · simp
    · split
      · exact hk _
      · split
        · simp
        · exact hr _
  · simp
/-- The changes of a body; an error. -/
def getRecS (b : List UInt8) : List Chg × Nat :=
  match b with
  | [] => ([], 4)
  | n :: r =>
    if n.toNat = 0 then ([], 5)
    else if (getsGo n.toNat (some r)).2.1 ≠ 0 then ([], (getsGo n.toNat (some r)).2.1)
    else if 0 < leftS (getsGo n.toNat (some r)).2.2 then ([], 5) else ((getsGo n.toNat (some r)).1, 0)
end Go.Proofs.Ytckpgbkabbddnaa

/- What a body of changes says are the changes; plain. -/
namespace Go.Proofs.Ytckpgbkabbddnaa
open Go.RowKit

theorem digs2' (n : Nat) : digs n 2 = [UInt8.ofNat n, UInt8.ofNat (n / 256)] := by simp [digs, List.range_succ]
theorem two_bytes' {n : Nat} (h : n < 65536) : (UInt8.ofNat n).toNat + 256 * (UInt8.ofNat (n / 256)).toNat = n := by
  rw [UInt8.toNat_ofNat', UInt8.toNat_ofNat']
  omega
theorem rowS_put (l r : List UInt8) (h : l.length ≤ 255) : rowS (some (UInt8.ofNat l.length :: (l ++ r))) = (l, 0, some r) := by
  have h1 : (UInt8.ofNat l.length).toNat = l.length := by rw [UInt8.toNat_ofNat']; omega
  unfold rowS
  dsimp only
  rw [h1, if_neg (by rw [List.length_append]; omega)]
  simp
theorem getKeyS_put {k : Ky} (h : mayK k) (r : List UInt8) : getKeyS (some (keyB k ++ r)) = (k, 0, some r) := by
  obtain ⟨i, a, s, c⟩ := k
  obtain ⟨h1, h2, h3⟩ := id h
  dsimp only at h1 h2 h3
  obtain ⟨m, rfl⟩ : ∃ m : Nat, i = m := ⟨i.toNat, by omega⟩
  have hm : m < 65536 := by omega
  have htn : (m : Int).toNat = m := by omega
  unfold keyB
  dsimp only
  rw [htn, digs2']
  rcases h3 with ⟨ha, hn, hc⟩ | ⟨ha, hn, hc⟩ | ⟨ha, hn, hc, hc8⟩
  · subst ha hn hc
    rw [if_neg (by decide), if_neg (by decide)]
    simp only [List.append_nil, List.cons_append, List.nil_append, getKeyS]
    rw [if_neg (by decide), if_neg (by decide), two_bytes' hm]
    exact if_pos h
  · subst ha hc
    have hl : s.data.toList.length ≤ 12 := hn.2.2.1
    rw [if_pos rfl]
    simp only [List.cons_append, List.nil_append, getKeyS]
    rw [if_pos trivial, rowS_put _ _ (by omega), two_bytes' hm]
    dsimp only
    rw [if_neg (by omega)]
    have hs : (⟨s.data.toList.toArray⟩ : ByteArray) = s := by cases s; simp
    rw [hs]
    exact if_pos h
  · subst ha hn
    obtain ⟨z, rfl⟩ : ∃ z : Nat, c = z := ⟨c.toNat, by omega⟩
    have hz : (UInt8.ofNat (z : Int).toNat).toNat = z := by rw [UInt8.toNat_ofNat']; omega
    rw [if_neg (by decide), if_pos rfl]
    simp only [List.cons_append, List.nil_append, getKeyS]
    rw [if_neg (by decide), if_pos trivial, two_bytes' hm, hz]
    exact if_pos h
theorem oneS_put {c : Chg} (h : chgOk c) (r : List UInt8) : oneS (some (chgB c ++ r)) = (c, 0, some r) := by
  obtain ⟨k, v, gn⟩ := c
  obtain ⟨h1, h2⟩ := h
  dsimp only at h1
  cases gn with
  | true =>
    have h3 : v.length = 0 := h2
    have hv : v = [] := List.eq_nil_of_length_eq_zero h3
    subst hv
    have hb : chgB ⟨k, [], true⟩ ++ r = 0 :: (keyB k ++ r) := rfl
    rw [hb]
    unfold oneS
    dsimp only
    rw [getKeyS_put h1]
    simp
  | false =>
    have h3 : 1 ≤ v.length ∧ v.length ≤ 255 := h2
    have hb : chgB ⟨k, v, false⟩ ++ r = 1 :: (keyB k ++ (UInt8.ofNat v.length :: (v ++ r))) := by simp [chgB]
    rw [hb]
    unfold oneS
    dsimp only
    rw [getKeyS_put h1, rowS_put _ _ h3.2]
    dsimp only
    rw [if_neg (by decide), if_neg (by simp), if_neg (by simp; intro hv; rw [hv] at h3; simp at h3)]
theorem getsGo_put : ∀ (cs : List Chg) (r : List UInt8), (∀ c ∈ cs, chgOk c) → getsGo cs.length (some (cs.flatMap chgB ++ r)) = (cs, 0, some r)
  | [], r, _ => rfl
  | c :: cs, r, h => by
    have ih := getsGo_put cs r fun x hx => h x (by simp [hx])
    have hc := oneS_put (h c (by simp)) (cs.flatMap chgB ++ r)
    rw [List.flatMap_cons, List.append_assoc, List.length_cons, getsGo, hc]
    dsimp only
    rw [if_neg (by simp), ih]
    dsimp only
    rw [if_neg (by simp)]
theorem getRecS_put {cs : List Chg} (h : bodyOk cs) : getRecS (bodyB cs) = (cs, 0) := by
  obtain ⟨h1, h2, h3⟩ := h
  have hn : (UInt8.ofNat cs.length).toNat = cs.length := by rw [UInt8.toNat_ofNat']; omega
  have hg := getsGo_put cs [] h3
  rw [List.append_nil] at hg
  unfold bodyB getRecS
  dsimp only
  rw [hn, if_neg (by omega), hg]
  dsimp only
  rw [if_neg (by simp), if_neg (by simp [leftS])]
end Go.Proofs.Ytckpgbkabbddnaa
