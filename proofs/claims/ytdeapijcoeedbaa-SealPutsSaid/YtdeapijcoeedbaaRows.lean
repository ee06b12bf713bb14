/-
  No cell of these rows narrows 'for every input' (looked for: loops, veiled, ifaces, maps, wideKeys, modest, calm, conditions, laid).
  DERIVED. THE GIVEN ROWS OF THIS SEAT. 8 by the template 'for every input the law returns true; each argument reads behind the call as it read before'; 0 by the template 'total and deterministic' (their statements: YtdeapijcoeedbaaTotals.lean).
  GIVEN WITH THE SEED: the statements are not yours to turn. If you find one false, say at which input.
  Laid BY PROGRAM, IN A SANDBOX (cutbox-rows.mjs): the forced cells as the released guide's own fill.sh prints them over the translation c4071f51474665a4… (all of the seat's roots in one cut). By AI agents, Wed Nov 11 2026. No macro, syntax, notation, axiom, sorry.
-/
import Derived.Test.YtdeapijcoeedbaaChecked
import GoSem.Claim
import GoSem.ClaimJoined
import GoSem.ClaimMapViews
import Derived.JoinedTies
import Derived.KernelRfl
namespace Go.Proofs.Ytdeapijcoeedbaa
/- THE CELL 'sum', in the pinned program and in every row, IS THE sha256 OF THE DUMP (.gsa) THAT YtdeapijcoeedbaaProg.lean LOADS. Nothing in Lean hashes anything: it is a label: what it is worth is what the hold of that sum in a sandbox is worth. -/
noncomputable def Try.pinned : Pinned := { name := "ytdeapijcoeedbaa", sum := "c4071f51474665a48003e386e42a627efcd40eb7896518914296cacb404db83b", checked := Try.checked }
namespace Rows
def none {H : Type} : Left H := { results := [], args := [] }

/-- 'carracklaw02.SealPuts': WHATEVER THE INPUT: true; the input reads as it did. -/
def sealPutsSpec : ChangeSpec := { name := "sealPuts", fn := fun _ => fun
  | [d1, d2, d3] => { results := [.lit (.bool true)], args := [d1, d2, d3] }
  | _ => none }
def sealPutsRow : OpenClaim := { program := "ytdeapijcoeedbaa", sum := "c4071f51474665a48003e386e42a627efcd40eb7896518914296cacb404db83b", func := "carrack/carracklaw02.SealPuts", spec := "sealPuts", apart := false }
def SealPutsSaid : Prop := sealPutsRow.holds Try.pinned (OpenSpec.ofChange sealPutsSpec)

/-- ITS FALSE NEIGHBOUR: 'it returns false'. Refute it at one input. -/
def sealPutsWrong : ChangeSpec := { name := "sealPuts", fn := fun _ => fun
  | [d1, d2, d3] => { results := [.lit (.bool false)], args := [d1, d2, d3] }
  | _ => none }
def SealPutsWrongFalsely : Prop := sealPutsRow.holds Try.pinned (OpenSpec.ofChange sealPutsWrong)

/-- 'carracklaw02.SealGets': WHATEVER THE INPUT: true; the input reads as it did. -/
def sealGetsSpec : ChangeSpec := { name := "sealGets", fn := fun _ => fun
  | [d] => { results := [.lit (.bool true)], args := [d] }
  | _ => none }
def sealGetsRow : OpenClaim := { program := "ytdeapijcoeedbaa", sum := "c4071f51474665a48003e386e42a627efcd40eb7896518914296cacb404db83b", func := "carrack/carracklaw02.SealGets", spec := "sealGets", apart := false }
def SealGetsSaid : Prop := sealGetsRow.holds Try.pinned (OpenSpec.ofChange sealGetsSpec)

/-- ITS FALSE NEIGHBOUR: 'it returns false'. Refute it at one input. -/
def sealGetsWrong : ChangeSpec := { name := "sealGets", fn := fun _ => fun
  | [d] => { results := [.lit (.bool false)], args := [d] }
  | _ => none }
def SealGetsWrongFalsely : Prop := sealGetsRow.holds Try.pinned (OpenSpec.ofChange sealGetsWrong)

/-- 'carracklaw02.SealBack': WHATEVER THE INPUT: true; the input reads as it did. -/
def sealBackSpec : ChangeSpec := { name := "sealBack", fn := fun _ => fun
  | [d1, d2, d3, d4] => { results := [.lit (.bool true)], args := [d1, d2, d3, d4] }
  | _ => none }
def sealBackRow : OpenClaim := { program := "ytdeapijcoeedbaa", sum := "c4071f51474665a48003e386e42a627efcd40eb7896518914296cacb404db83b", func := "carrack/carracklaw02.SealBack", spec := "sealBack", apart := false }
def SealBackSaid : Prop := sealBackRow.holds Try.pinned (OpenSpec.ofChange sealBackSpec)

/-- ITS FALSE NEIGHBOUR: 'it returns false'. Refute it at one input. -/
def sealBackWrong : ChangeSpec := { name := "sealBack", fn := fun _ => fun
  | [d1, d2, d3, d4] => { results := [.lit (.bool false)], args := [d1, d2, d3, d4] }
  | _ => none }
def SealBackWrongFalsely : Prop := sealBackRow.holds Try.pinned (OpenSpec.ofChange sealBackWrong)

/-- 'carracklaw02.SealTwice': WHATEVER THE INPUT: true; the input reads as it did. -/
def sealTwiceSpec : ChangeSpec := { name := "sealTwice", fn := fun _ => fun
  | [d1, d2, d3, d4, d5] => { results := [.lit (.bool true)], args := [d1, d2, d3, d4, d5] }
  | _ => none }
def sealTwiceRow : OpenClaim := { program := "ytdeapijcoeedbaa", sum := "c4071f51474665a48003e386e42a627efcd40eb7896518914296cacb404db83b", func := "carrack/carracklaw02.SealTwice", spec := "sealTwice", apart := false }
def SealTwiceSaid : Prop := sealTwiceRow.holds Try.pinned (OpenSpec.ofChange sealTwiceSpec)

/-- ITS FALSE NEIGHBOUR: 'it returns false'. Refute it at one input. -/
def sealTwiceWrong : ChangeSpec := { name := "sealTwice", fn := fun _ => fun
  | [d1, d2, d3, d4, d5] => { results := [.lit (.bool false)], args := [d1, d2, d3, d4, d5] }
  | _ => none }
def SealTwiceWrongFalsely : Prop := sealTwiceRow.holds Try.pinned (OpenSpec.ofChange sealTwiceWrong)

/-- 'carracklaw02.SealCounts': WHATEVER THE INPUT: true; the input reads as it did. -/
def sealCountsSpec : ChangeSpec := { name := "sealCounts", fn := fun _ => fun
  | [d1, d2] => { results := [.lit (.bool true)], args := [d1, d2] }
  | _ => none }
def sealCountsRow : OpenClaim := { program := "ytdeapijcoeedbaa", sum := "c4071f51474665a48003e386e42a627efcd40eb7896518914296cacb404db83b", func := "carrack/carracklaw02.SealCounts", spec := "sealCounts", apart := false }
def SealCountsSaid : Prop := sealCountsRow.holds Try.pinned (OpenSpec.ofChange sealCountsSpec)

/-- ITS FALSE NEIGHBOUR: 'it returns false'. Refute it at one input. -/
def sealCountsWrong : ChangeSpec := { name := "sealCounts", fn := fun _ => fun
  | [d1, d2] => { results := [.lit (.bool false)], args := [d1, d2] }
  | _ => none }
def SealCountsWrongFalsely : Prop := sealCountsRow.holds Try.pinned (OpenSpec.ofChange sealCountsWrong)

/-- 'carracklaw02.SealSure': WHATEVER THE INPUT: true; the input reads as it did. -/
def sealSureSpec : ChangeSpec := { name := "sealSure", fn := fun _ => fun
  | [d1, d2, d3, d4] => { results := [.lit (.bool true)], args := [d1, d2, d3, d4] }
  | _ => none }
def sealSureRow : OpenClaim := { program := "ytdeapijcoeedbaa", sum := "c4071f51474665a48003e386e42a627efcd40eb7896518914296cacb404db83b", func := "carrack/carracklaw02.SealSure", spec := "sealSure", apart := false }
def SealSureSaid : Prop := sealSureRow.holds Try.pinned (OpenSpec.ofChange sealSureSpec)

/-- ITS FALSE NEIGHBOUR: 'it returns false'. Refute it at one input. -/
def sealSureWrong : ChangeSpec := { name := "sealSure", fn := fun _ => fun
  | [d1, d2, d3, d4] => { results := [.lit (.bool false)], args := [d1, d2, d3, d4] }
  | _ => none }
def SealSureWrongFalsely : Prop := sealSureRow.holds Try.pinned (OpenSpec.ofChange sealSureWrong)

/-- 'carracklaw02.SealLess': WHATEVER THE INPUT: true; the input reads as it did. -/
def sealLessSpec : ChangeSpec := { name := "sealLess", fn := fun _ => fun
  | [d1, d2, d3] => { results := [.lit (.bool true)], args := [d1, d2, d3] }
  | _ => none }
def sealLessRow : OpenClaim := { program := "ytdeapijcoeedbaa", sum := "c4071f51474665a48003e386e42a627efcd40eb7896518914296cacb404db83b", func := "carrack/carracklaw02.SealLess", spec := "sealLess", apart := false }
def SealLessSaid : Prop := sealLessRow.holds Try.pinned (OpenSpec.ofChange sealLessSpec)

/-- ITS FALSE NEIGHBOUR: 'it returns false'. Refute it at one input. -/
def sealLessWrong : ChangeSpec := { name := "sealLess", fn := fun _ => fun
  | [d1, d2, d3] => { results := [.lit (.bool false)], args := [d1, d2, d3] }
  | _ => none }
def SealLessWrongFalsely : Prop := sealLessRow.holds Try.pinned (OpenSpec.ofChange sealLessWrong)

/-- 'carracklaw02.SealFresh': WHATEVER THE INPUT: true; the input reads as it did. -/
def sealFreshSpec : ChangeSpec := { name := "sealFresh", fn := fun _ => fun
  | [d1, d2, d3] => { results := [.lit (.bool true)], args := [d1, d2, d3] }
  | _ => none }
def sealFreshRow : OpenClaim := { program := "ytdeapijcoeedbaa", sum := "c4071f51474665a48003e386e42a627efcd40eb7896518914296cacb404db83b", func := "carrack/carracklaw02.SealFresh", spec := "sealFresh", apart := false }
def SealFreshSaid : Prop := sealFreshRow.holds Try.pinned (OpenSpec.ofChange sealFreshSpec)

/-- ITS FALSE NEIGHBOUR: 'it returns false'. Refute it at one input. -/
def sealFreshWrong : ChangeSpec := { name := "sealFresh", fn := fun _ => fun
  | [d1, d2, d3] => { results := [.lit (.bool false)], args := [d1, d2, d3] }
  | _ => none }
def SealFreshWrongFalsely : Prop := sealFreshRow.holds Try.pinned (OpenSpec.ofChange sealFreshWrong)

/- THE SECOND FORM. 'bulk': how many values and letters a reading holds, each counted each time it is reached (what is shared counts as often as it is met; a slice's spare places count too). A statement '..UptoSaid' is the law's where the arguments, and the package variables that the reading takes, are together of bulk at most 1048576: NARROWER than '..Said'. Prove '..Said' where nothing that the law and all that it calls make is longer than what came in: it says more and counts as full. Else prove '..UptoSaid'. A law counts once. -/
mutual
def uptoBulk {H : Type} : DataW H → Nat
  | .lit (.string bytes) => bytes.length + 1
  | .lit _ => 1
  | .nil => 1
  | .ptr d => uptoBulk d + 1
  | .slice elems spare => uptoBulkAll elems + uptoBulkAll spare + 1
  | .agg parts => uptoBulkAll parts + 1
  | .iface _ d => uptoBulk d + 1
  | .map entries => uptoBulkEntries entries + 1
  | .held _ => 1
def uptoBulkAll {H : Type} : List (DataW H) → Nat
  | [] => 0
  | d :: r => uptoBulk d + uptoBulkAll r
def uptoBulkEntries {H : Type} : List (Lit × DataW H) → Nat
  | [] => 0
  | x :: r => uptoBulkEntry x + uptoBulkEntries r
def uptoBulkEntry {H : Type} : Lit × DataW H → Nat
  | (.string bytes, d) => bytes.length + uptoBulk d + 1
  | (_, d) => uptoBulk d + 1
 end
def uptoSmall : (H : Type) → List (DataW H) → Bool := fun _ ds => decide (uptoBulkAll ds ≤ 1048576)
def OpenSpec.upto (s : _root_.Go.ChangeSpec) : _root_.Go.OpenSpec := { _root_.Go.OpenSpec.ofChange s with cond := some uptoSmall }

/-- 'carracklaw02.SealPuts', WHERE WHAT IT READS IS OF BULK AT MOST 1048576: true; the input reads as it did. -/
def sealPutsUptoRow : OpenClaim := { program := "ytdeapijcoeedbaa", sum := "c4071f51474665a48003e386e42a627efcd40eb7896518914296cacb404db83b", func := "carrack/carracklaw02.SealPuts", spec := "sealPuts", apart := false, narrowed := true }
def SealPutsUptoSaid : Prop := sealPutsUptoRow.holds Try.pinned (OpenSpec.upto sealPutsSpec)

/-- 'carracklaw02.SealGets', WHERE WHAT IT READS IS OF BULK AT MOST 1048576: true; the input reads as it did. -/
def sealGetsUptoRow : OpenClaim := { program := "ytdeapijcoeedbaa", sum := "c4071f51474665a48003e386e42a627efcd40eb7896518914296cacb404db83b", func := "carrack/carracklaw02.SealGets", spec := "sealGets", apart := false, narrowed := true }
def SealGetsUptoSaid : Prop := sealGetsUptoRow.holds Try.pinned (OpenSpec.upto sealGetsSpec)

/-- 'carracklaw02.SealBack', WHERE WHAT IT READS IS OF BULK AT MOST 1048576: true; the input reads as it did. -/
def sealBackUptoRow : OpenClaim := { program := "ytdeapijcoeedbaa", sum := "c4071f51474665a48003e386e42a627efcd40eb7896518914296cacb404db83b", func := "carrack/carracklaw02.SealBack", spec := "sealBack", apart := false, narrowed := true }
def SealBackUptoSaid : Prop := sealBackUptoRow.holds Try.pinned (OpenSpec.upto sealBackSpec)

/-- 'carracklaw02.SealTwice', WHERE WHAT IT READS IS OF BULK AT MOST 1048576: true; the input reads as it did. -/
def sealTwiceUptoRow : OpenClaim := { program := "ytdeapijcoeedbaa", sum := "c4071f51474665a48003e386e42a627efcd40eb7896518914296cacb404db83b", func := "carrack/carracklaw02.SealTwice", spec := "sealTwice", apart := false, narrowed := true }
def SealTwiceUptoSaid : Prop := sealTwiceUptoRow.holds Try.pinned (OpenSpec.upto sealTwiceSpec)

/-- 'carracklaw02.SealCounts', WHERE WHAT IT READS IS OF BULK AT MOST 1048576: true; the input reads as it did. -/
def sealCountsUptoRow : OpenClaim := { program := "ytdeapijcoeedbaa", sum := "c4071f51474665a48003e386e42a627efcd40eb7896518914296cacb404db83b", func := "carrack/carracklaw02.SealCounts", spec := "sealCounts", apart := false, narrowed := true }
def SealCountsUptoSaid : Prop := sealCountsUptoRow.holds Try.pinned (OpenSpec.upto sealCountsSpec)

/-- 'carracklaw02.SealSure', WHERE WHAT IT READS IS OF BULK AT MOST 1048576: true; the input reads as it did. -/
def sealSureUptoRow : OpenClaim := { program := "ytdeapijcoeedbaa", sum := "c4071f51474665a48003e386e42a627efcd40eb7896518914296cacb404db83b", func := "carrack/carracklaw02.SealSure", spec := "sealSure", apart := false, narrowed := true }
def SealSureUptoSaid : Prop := sealSureUptoRow.holds Try.pinned (OpenSpec.upto sealSureSpec)

/-- 'carracklaw02.SealLess', WHERE WHAT IT READS IS OF BULK AT MOST 1048576: true; the input reads as it did. -/
def sealLessUptoRow : OpenClaim := { program := "ytdeapijcoeedbaa", sum := "c4071f51474665a48003e386e42a627efcd40eb7896518914296cacb404db83b", func := "carrack/carracklaw02.SealLess", spec := "sealLess", apart := false, narrowed := true }
def SealLessUptoSaid : Prop := sealLessUptoRow.holds Try.pinned (OpenSpec.upto sealLessSpec)

/-- 'carracklaw02.SealFresh', WHERE WHAT IT READS IS OF BULK AT MOST 1048576: true; the input reads as it did. -/
def sealFreshUptoRow : OpenClaim := { program := "ytdeapijcoeedbaa", sum := "c4071f51474665a48003e386e42a627efcd40eb7896518914296cacb404db83b", func := "carrack/carracklaw02.SealFresh", spec := "sealFresh", apart := false, narrowed := true }
def SealFreshUptoSaid : Prop := sealFreshUptoRow.holds Try.pinned (OpenSpec.upto sealFreshSpec)

end Rows
end Go.Proofs.Ytdeapijcoeedbaa
