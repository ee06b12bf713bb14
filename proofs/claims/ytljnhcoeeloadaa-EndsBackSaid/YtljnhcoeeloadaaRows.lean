/-
  No cell of these rows narrows 'for every input' (looked for: loops, veiled, ifaces, maps, wideKeys, modest, calm, conditions, laid).
  DERIVED. THE GIVEN ROWS OF THIS SEAT. 6 by the template 'for every input the law returns true; each argument reads behind the call as it read before'; 0 by the template 'total and deterministic' (their statements: YtljnhcoeeloadaaTotals.lean).
  GIVEN WITH THE SEED: the statements are not yours to turn. If you find one false, say at which input.
  Laid BY PROGRAM, IN A SANDBOX (cutbox-rows.mjs): the forced cells as the released guide's own fill.sh prints them over the translation cdcad5348984add7… (all of the seat's roots in one cut). By AI agents, Wed Nov 11 2026. No macro, syntax, notation, axiom, sorry.
-/
import Derived.Test.YtljnhcoeeloadaaChecked
import GoSem.Claim
import GoSem.ClaimJoined
import GoSem.ClaimMapViews
import Derived.JoinedTies
import Derived.KernelRfl
namespace Go.Proofs.Ytljnhcoeeloadaa
/- THE CELL 'sum', in the pinned program and in every row, IS THE sha256 OF THE DUMP (.gsa) THAT YtljnhcoeeloadaaProg.lean LOADS. Nothing in Lean hashes anything: it is a label: what it is worth is what the hold of that sum in a sandbox is worth. -/
noncomputable def Try.pinned : Pinned := { name := "ytljnhcoeeloadaa", sum := "cdcad5348984add702c27c141fdb706c391547236620ca9d503fe64e11859704", checked := Try.checked }
namespace Rows
def none {H : Type} : Left H := { results := [], args := [] }

/-- 'carracklaw01.EndsTakes': WHATEVER THE INPUT: true; the input reads as it did. -/
def endsTakesSpec : ChangeSpec := { name := "endsTakes", fn := fun _ => fun
  | [d1, d2] => { results := [.lit (.bool true)], args := [d1, d2] }
  | _ => none }
def endsTakesRow : OpenClaim := { program := "ytljnhcoeeloadaa", sum := "cdcad5348984add702c27c141fdb706c391547236620ca9d503fe64e11859704", func := "carrack/carracklaw01.EndsTakes", spec := "endsTakes", apart := false }
def EndsTakesSaid : Prop := endsTakesRow.holds Try.pinned (OpenSpec.ofChange endsTakesSpec)

/-- ITS FALSE NEIGHBOUR: 'it returns false'. Refute it at one input. -/
def endsTakesWrong : ChangeSpec := { name := "endsTakes", fn := fun _ => fun
  | [d1, d2] => { results := [.lit (.bool false)], args := [d1, d2] }
  | _ => none }
def EndsTakesWrongFalsely : Prop := endsTakesRow.holds Try.pinned (OpenSpec.ofChange endsTakesWrong)

/-- 'carracklaw01.EndsRefused': WHATEVER THE INPUT: true; the input reads as it did. -/
def endsRefusedSpec : ChangeSpec := { name := "endsRefused", fn := fun _ => fun
  | [d1, d2] => { results := [.lit (.bool true)], args := [d1, d2] }
  | _ => none }
def endsRefusedRow : OpenClaim := { program := "ytljnhcoeeloadaa", sum := "cdcad5348984add702c27c141fdb706c391547236620ca9d503fe64e11859704", func := "carrack/carracklaw01.EndsRefused", spec := "endsRefused", apart := false }
def EndsRefusedSaid : Prop := endsRefusedRow.holds Try.pinned (OpenSpec.ofChange endsRefusedSpec)

/-- ITS FALSE NEIGHBOUR: 'it returns false'. Refute it at one input. -/
def endsRefusedWrong : ChangeSpec := { name := "endsRefused", fn := fun _ => fun
  | [d1, d2] => { results := [.lit (.bool false)], args := [d1, d2] }
  | _ => none }
def EndsRefusedWrongFalsely : Prop := endsRefusedRow.holds Try.pinned (OpenSpec.ofChange endsRefusedWrong)

/-- 'carracklaw01.EndsNil': WHATEVER THE INPUT: true; the input reads as it did. -/
def endsNilSpec : ChangeSpec := { name := "endsNil", fn := fun _ => fun
  | [d1, d2] => { results := [.lit (.bool true)], args := [d1, d2] }
  | _ => none }
def endsNilRow : OpenClaim := { program := "ytljnhcoeeloadaa", sum := "cdcad5348984add702c27c141fdb706c391547236620ca9d503fe64e11859704", func := "carrack/carracklaw01.EndsNil", spec := "endsNil", apart := false }
def EndsNilSaid : Prop := endsNilRow.holds Try.pinned (OpenSpec.ofChange endsNilSpec)

/-- ITS FALSE NEIGHBOUR: 'it returns false'. Refute it at one input. -/
def endsNilWrong : ChangeSpec := { name := "endsNil", fn := fun _ => fun
  | [d1, d2] => { results := [.lit (.bool false)], args := [d1, d2] }
  | _ => none }
def EndsNilWrongFalsely : Prop := endsNilRow.holds Try.pinned (OpenSpec.ofChange endsNilWrong)

/-- 'carracklaw01.EndsPuts': WHATEVER THE INPUT: true; the input reads as it did. -/
def endsPutsSpec : ChangeSpec := { name := "endsPuts", fn := fun _ => fun
  | [d1, d2, d3] => { results := [.lit (.bool true)], args := [d1, d2, d3] }
  | _ => none }
def endsPutsRow : OpenClaim := { program := "ytljnhcoeeloadaa", sum := "cdcad5348984add702c27c141fdb706c391547236620ca9d503fe64e11859704", func := "carrack/carracklaw01.EndsPuts", spec := "endsPuts", apart := false }
def EndsPutsSaid : Prop := endsPutsRow.holds Try.pinned (OpenSpec.ofChange endsPutsSpec)

/-- ITS FALSE NEIGHBOUR: 'it returns false'. Refute it at one input. -/
def endsPutsWrong : ChangeSpec := { name := "endsPuts", fn := fun _ => fun
  | [d1, d2, d3] => { results := [.lit (.bool false)], args := [d1, d2, d3] }
  | _ => none }
def EndsPutsWrongFalsely : Prop := endsPutsRow.holds Try.pinned (OpenSpec.ofChange endsPutsWrong)

/-- 'carracklaw01.EndsBack': WHATEVER THE INPUT: true; the input reads as it did. -/
def endsBackSpec : ChangeSpec := { name := "endsBack", fn := fun _ => fun
  | [d1, d2] => { results := [.lit (.bool true)], args := [d1, d2] }
  | _ => none }
def endsBackRow : OpenClaim := { program := "ytljnhcoeeloadaa", sum := "cdcad5348984add702c27c141fdb706c391547236620ca9d503fe64e11859704", func := "carrack/carracklaw01.EndsBack", spec := "endsBack", apart := false }
def EndsBackSaid : Prop := endsBackRow.holds Try.pinned (OpenSpec.ofChange endsBackSpec)

/-- ITS FALSE NEIGHBOUR: 'it returns false'. Refute it at one input. -/
def endsBackWrong : ChangeSpec := { name := "endsBack", fn := fun _ => fun
  | [d1, d2] => { results := [.lit (.bool false)], args := [d1, d2] }
  | _ => none }
def EndsBackWrongFalsely : Prop := endsBackRow.holds Try.pinned (OpenSpec.ofChange endsBackWrong)

/-- 'carracklaw01.EndsFresh': WHATEVER THE INPUT: true; the input reads as it did. -/
def endsFreshSpec : ChangeSpec := { name := "endsFresh", fn := fun _ => fun
  | [d] => { results := [.lit (.bool true)], args := [d] }
  | _ => none }
def endsFreshRow : OpenClaim := { program := "ytljnhcoeeloadaa", sum := "cdcad5348984add702c27c141fdb706c391547236620ca9d503fe64e11859704", func := "carrack/carracklaw01.EndsFresh", spec := "endsFresh", apart := false }
def EndsFreshSaid : Prop := endsFreshRow.holds Try.pinned (OpenSpec.ofChange endsFreshSpec)

/-- ITS FALSE NEIGHBOUR: 'it returns false'. Refute it at one input. -/
def endsFreshWrong : ChangeSpec := { name := "endsFresh", fn := fun _ => fun
  | [d] => { results := [.lit (.bool false)], args := [d] }
  | _ => none }
def EndsFreshWrongFalsely : Prop := endsFreshRow.holds Try.pinned (OpenSpec.ofChange endsFreshWrong)

/- THE SECOND FORM. 'bulk': how many values and letters a reading holds, each counted each time it is reached (what is shared counts as often as it is met; a slice's spare places count too). A statement '..UptoSaid' is the law's where the arguments, and the package variables that the reading takes, are together of bulk at most 1048576: NARROWER than '..Said'. Prove '..Said' where nothing that the law and all that it calls make is longer than what came in: it says more and counts as full. Else prove '..UptoSaid'. A law counts once. -/
mutual
def uptoBulk {H : Type} : DataW H → Nat
  | .lit (.string bytes) => bytes.length + 1
  | .lit _ => 1
  | .nil => 1
  | .ptr d => uptoBulk d + 1
  | .slice elems spare => uptoBulkAll elems + uptoBulkAll spare + 1
  | .agg parts => uptoBulkAll parts + 1
  | .iface _ d => uptoBulk d + 1
  | .map entries => uptoBulkEntries entries + 1
  | .held _ => 1
def uptoBulkAll {H : Type} : List (DataW H) → Nat
  | [] => 0
  | d :: r => uptoBulk d + uptoBulkAll r
def uptoBulkEntries {H : Type} : List (Lit × DataW H) → Nat
  | [] => 0
  | x :: r => uptoBulkEntry x + uptoBulkEntries r
def uptoBulkEntry {H : Type} : Lit × DataW H → Nat
  | (.string bytes, d) => bytes.length + uptoBulk d + 1
  | (_, d) => uptoBulk d + 1
 end
def uptoSmall : (H : Type) → List (DataW H) → Bool := fun _ ds => decide (uptoBulkAll ds ≤ 1048576)
def OpenSpec.upto (s : _root_.Go.ChangeSpec) : _root_.Go.OpenSpec := { _root_.Go.OpenSpec.ofChange s with cond := some uptoSmall }

/-- 'carracklaw01.EndsTakes', WHERE WHAT IT READS IS OF BULK AT MOST 1048576: true; the input reads as it did. -/
def endsTakesUptoRow : OpenClaim := { program := "ytljnhcoeeloadaa", sum := "cdcad5348984add702c27c141fdb706c391547236620ca9d503fe64e11859704", func := "carrack/carracklaw01.EndsTakes", spec := "endsTakes", apart := false, narrowed := true }
def EndsTakesUptoSaid : Prop := endsTakesUptoRow.holds Try.pinned (OpenSpec.upto endsTakesSpec)

/-- 'carracklaw01.EndsRefused', WHERE WHAT IT READS IS OF BULK AT MOST 1048576: true; the input reads as it did. -/
def endsRefusedUptoRow : OpenClaim := { program := "ytljnhcoeeloadaa", sum := "cdcad5348984add702c27c141fdb706c391547236620ca9d503fe64e11859704", func := "carrack/carracklaw01.EndsRefused", spec := "endsRefused", apart := false, narrowed := true }
def EndsRefusedUptoSaid : Prop := endsRefusedUptoRow.holds Try.pinned (OpenSpec.upto endsRefusedSpec)

/-- 'carracklaw01.EndsNil', WHERE WHAT IT READS IS OF BULK AT MOST 1048576: true; the input reads as it did. -/
def endsNilUptoRow : OpenClaim := { program := "ytljnhcoeeloadaa", sum := "cdcad5348984add702c27c141fdb706c391547236620ca9d503fe64e11859704", func := "carrack/carracklaw01.EndsNil", spec := "endsNil", apart := false, narrowed := true }
def EndsNilUptoSaid : Prop := endsNilUptoRow.holds Try.pinned (OpenSpec.upto endsNilSpec)

/-- 'carracklaw01.EndsPuts', WHERE WHAT IT READS IS OF BULK AT MOST 1048576: true; the input reads as it did. -/
def endsPutsUptoRow : OpenClaim := { program := "ytljnhcoeeloadaa", sum := "cdcad5348984add702c27c141fdb706c391547236620ca9d503fe64e11859704", func := "carrack/carracklaw01.EndsPuts", spec := "endsPuts", apart := false, narrowed := true }
def EndsPutsUptoSaid : Prop := endsPutsUptoRow.holds Try.pinned (OpenSpec.upto endsPutsSpec)

/-- 'carracklaw01.EndsBack', WHERE WHAT IT READS IS OF BULK AT MOST 1048576: true; the input reads as it did. -/
def endsBackUptoRow : OpenClaim := { program := "ytljnhcoeeloadaa", sum := "cdcad5348984add702c27c141fdb706c391547236620ca9d503fe64e11859704", func := "carrack/carracklaw01.EndsBack", spec := "endsBack", apart := false, narrowed := true }
def EndsBackUptoSaid : Prop := endsBackUptoRow.holds Try.pinned (OpenSpec.upto endsBackSpec)

/-- 'carracklaw01.EndsFresh', WHERE WHAT IT READS IS OF BULK AT MOST 1048576: true; the input reads as it did. -/
def endsFreshUptoRow : OpenClaim := { program := "ytljnhcoeeloadaa", sum := "cdcad5348984add702c27c141fdb706c391547236620ca9d503fe64e11859704", func := "carrack/carracklaw01.EndsFresh", spec := "endsFresh", apart := false, narrowed := true }
def EndsFreshUptoSaid : Prop := endsFreshUptoRow.holds Try.pinned (OpenSpec.upto endsFreshSpec)

end Rows
end Go.Proofs.Ytljnhcoeeloadaa
