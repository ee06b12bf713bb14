/-
  No cell of these rows narrows 'for every input' (looked for: loops, veiled, ifaces, maps, wideKeys, modest, calm, conditions, laid).
  DERIVED. THE GIVEN ROWS OF THIS SEAT. 5 by the template 'for every input the law returns true; each argument reads behind the call as it read before'; 0 by the template 'total and deterministic' (their statements: YtlioclicopakbaaTotals.lean).
  GIVEN WITH THE SEED: the statements are not yours to turn. If you find one false, say at which input.
  Laid BY PROGRAM, IN A SANDBOX (cutbox-rows.mjs): the forced cells as the released guide's own fill.sh prints them over the translation 39a94c6dd3d6a501… (all of the seat's roots in one cut). By AI agents, Wed Nov 11 2026. No macro, syntax, notation, axiom, sorry.
-/
import Derived.Test.YtlioclicopakbaaChecked
import GoSem.Claim
import GoSem.ClaimJoined
import GoSem.ClaimMapViews
import Derived.JoinedTies
import Derived.KernelRfl
namespace Go.Proofs.Ytlioclicopakbaa
/- THE CELL 'sum', in the pinned program and in every row, IS THE sha256 OF THE DUMP (.gsa) THAT YtlioclicopakbaaProg.lean LOADS. Nothing in Lean hashes anything: it is a label: what it is worth is what the hold of that sum in a sandbox is worth. -/
noncomputable def Try.pinned : Pinned := { name := "ytlioclicopakbaa", sum := "39a94c6dd3d6a501cbf1e083212bf2663d9e2925c324528faf10f380e320c2e2", checked := Try.checked }
namespace Rows
def none {H : Type} : Left H := { results := [], args := [] }

/-- 'carracklaw16.ShapeCuts': WHATEVER THE INPUT: true; the input reads as it did. -/
def shapeCutsSpec : ChangeSpec := { name := "shapeCuts", fn := fun _ => fun
  | [d1, d2] => { results := [.lit (.bool true)], args := [d1, d2] }
  | _ => none }
def shapeCutsRow : OpenClaim := { program := "ytlioclicopakbaa", sum := "39a94c6dd3d6a501cbf1e083212bf2663d9e2925c324528faf10f380e320c2e2", func := "carrack/carracklaw16.ShapeCuts", spec := "shapeCuts", unfollowed := true, recurses := true, apart := false }
def ShapeCutsSaid : Prop := shapeCutsRow.holds Try.pinned (OpenSpec.ofChange shapeCutsSpec)

/-- ITS FALSE NEIGHBOUR: 'it returns false'. Refute it at one input. -/
def shapeCutsWrong : ChangeSpec := { name := "shapeCuts", fn := fun _ => fun
  | [d1, d2] => { results := [.lit (.bool false)], args := [d1, d2] }
  | _ => none }
def ShapeCutsWrongFalsely : Prop := shapeCutsRow.holds Try.pinned (OpenSpec.ofChange shapeCutsWrong)

/-- 'carracklaw16.ShapeLevels': WHATEVER THE INPUT: true; the input reads as it did. -/
def shapeLevelsSpec : ChangeSpec := { name := "shapeLevels", fn := fun _ => fun
  | [d1, d2] => { results := [.lit (.bool true)], args := [d1, d2] }
  | _ => none }
def shapeLevelsRow : OpenClaim := { program := "ytlioclicopakbaa", sum := "39a94c6dd3d6a501cbf1e083212bf2663d9e2925c324528faf10f380e320c2e2", func := "carrack/carracklaw16.ShapeLevels", spec := "shapeLevels", unfollowed := true, recurses := true, apart := false }
def ShapeLevelsSaid : Prop := shapeLevelsRow.holds Try.pinned (OpenSpec.ofChange shapeLevelsSpec)

/-- ITS FALSE NEIGHBOUR: 'it returns false'. Refute it at one input. -/
def shapeLevelsWrong : ChangeSpec := { name := "shapeLevels", fn := fun _ => fun
  | [d1, d2] => { results := [.lit (.bool false)], args := [d1, d2] }
  | _ => none }
def ShapeLevelsWrongFalsely : Prop := shapeLevelsRow.holds Try.pinned (OpenSpec.ofChange shapeLevelsWrong)

/-- 'carracklaw16.ShapeAll': WHATEVER THE INPUT: true; the input reads as it did. -/
def shapeAllSpec : ChangeSpec := { name := "shapeAll", fn := fun _ => fun
  | [d1, d2] => { results := [.lit (.bool true)], args := [d1, d2] }
  | _ => none }
def shapeAllRow : OpenClaim := { program := "ytlioclicopakbaa", sum := "39a94c6dd3d6a501cbf1e083212bf2663d9e2925c324528faf10f380e320c2e2", func := "carrack/carracklaw16.ShapeAll", spec := "shapeAll", unfollowed := true, recurses := true, apart := false }
def ShapeAllSaid : Prop := shapeAllRow.holds Try.pinned (OpenSpec.ofChange shapeAllSpec)

/-- ITS FALSE NEIGHBOUR: 'it returns false'. Refute it at one input. -/
def shapeAllWrong : ChangeSpec := { name := "shapeAll", fn := fun _ => fun
  | [d1, d2] => { results := [.lit (.bool false)], args := [d1, d2] }
  | _ => none }
def ShapeAllWrongFalsely : Prop := shapeAllRow.holds Try.pinned (OpenSpec.ofChange shapeAllWrong)

/-- 'carracklaw16.ShapeMany': WHATEVER THE INPUT: true; the input reads as it did. -/
def shapeManySpec : ChangeSpec := { name := "shapeMany", fn := fun _ => fun
  | [d1, d2] => { results := [.lit (.bool true)], args := [d1, d2] }
  | _ => none }
def shapeManyRow : OpenClaim := { program := "ytlioclicopakbaa", sum := "39a94c6dd3d6a501cbf1e083212bf2663d9e2925c324528faf10f380e320c2e2", func := "carrack/carracklaw16.ShapeMany", spec := "shapeMany", unfollowed := true, recurses := true, apart := false }
def ShapeManySaid : Prop := shapeManyRow.holds Try.pinned (OpenSpec.ofChange shapeManySpec)

/-- ITS FALSE NEIGHBOUR: 'it returns false'. Refute it at one input. -/
def shapeManyWrong : ChangeSpec := { name := "shapeMany", fn := fun _ => fun
  | [d1, d2] => { results := [.lit (.bool false)], args := [d1, d2] }
  | _ => none }
def ShapeManyWrongFalsely : Prop := shapeManyRow.holds Try.pinned (OpenSpec.ofChange shapeManyWrong)

/-- 'carracklaw16.ShapeNear': WHATEVER THE INPUT: true; the input reads as it did. -/
def shapeNearSpec : ChangeSpec := { name := "shapeNear", fn := fun _ => fun
  | [d1, d2, d3] => { results := [.lit (.bool true)], args := [d1, d2, d3] }
  | _ => none }
def shapeNearRow : OpenClaim := { program := "ytlioclicopakbaa", sum := "39a94c6dd3d6a501cbf1e083212bf2663d9e2925c324528faf10f380e320c2e2", func := "carrack/carracklaw16.ShapeNear", spec := "shapeNear", unfollowed := true, recurses := true, apart := false }
def ShapeNearSaid : Prop := shapeNearRow.holds Try.pinned (OpenSpec.ofChange shapeNearSpec)

/-- ITS FALSE NEIGHBOUR: 'it returns false'. Refute it at one input. -/
def shapeNearWrong : ChangeSpec := { name := "shapeNear", fn := fun _ => fun
  | [d1, d2, d3] => { results := [.lit (.bool false)], args := [d1, d2, d3] }
  | _ => none }
def ShapeNearWrongFalsely : Prop := shapeNearRow.holds Try.pinned (OpenSpec.ofChange shapeNearWrong)

/- THE SECOND FORM. 'bulk': how many values and letters a reading holds, each counted each time it is reached (what is shared counts as often as it is met; a slice's spare places count too). A statement '..UptoSaid' is the law's where the arguments, and the package variables that the reading takes, are together of bulk at most 1048576: NARROWER than '..Said'. Prove '..Said' where nothing that the law and all that it calls make is longer than what came in: it says more and counts as full. Else prove '..UptoSaid'. A law counts once. -/
mutual
def uptoBulk {H : Type} : DataW H → Nat
  | .lit (.string bytes) => bytes.length + 1
  | .lit _ => 1
  | .nil => 1
  | .ptr d => uptoBulk d + 1
  | .slice elems spare => uptoBulkAll elems + uptoBulkAll spare + 1
  | .agg parts => uptoBulkAll parts + 1
  | .iface _ d => uptoBulk d + 1
  | .map entries => uptoBulkEntries entries + 1
  | .held _ => 1
def uptoBulkAll {H : Type} : List (DataW H) → Nat
  | [] => 0
  | d :: r => uptoBulk d + uptoBulkAll r
def uptoBulkEntries {H : Type} : List (Lit × DataW H) → Nat
  | [] => 0
  | x :: r => uptoBulkEntry x + uptoBulkEntries r
def uptoBulkEntry {H : Type} : Lit × DataW H → Nat
  | (.string bytes, d) => bytes.length + uptoBulk d + 1
  | (_, d) => uptoBulk d + 1
 end
def uptoSmall : (H : Type) → List (DataW H) → Bool := fun _ ds => decide (uptoBulkAll ds ≤ 1048576)
def OpenSpec.upto (s : _root_.Go.ChangeSpec) : _root_.Go.OpenSpec := { _root_.Go.OpenSpec.ofChange s with cond := some uptoSmall }

/-- 'carracklaw16.ShapeCuts', WHERE WHAT IT READS IS OF BULK AT MOST 1048576: true; the input reads as it did. -/
def shapeCutsUptoRow : OpenClaim := { program := "ytlioclicopakbaa", sum := "39a94c6dd3d6a501cbf1e083212bf2663d9e2925c324528faf10f380e320c2e2", func := "carrack/carracklaw16.ShapeCuts", spec := "shapeCuts", unfollowed := true, recurses := true, apart := false, narrowed := true }
def ShapeCutsUptoSaid : Prop := shapeCutsUptoRow.holds Try.pinned (OpenSpec.upto shapeCutsSpec)

/-- 'carracklaw16.ShapeLevels', WHERE WHAT IT READS IS OF BULK AT MOST 1048576: true; the input reads as it did. -/
def shapeLevelsUptoRow : OpenClaim := { program := "ytlioclicopakbaa", sum := "39a94c6dd3d6a501cbf1e083212bf2663d9e2925c324528faf10f380e320c2e2", func := "carrack/carracklaw16.ShapeLevels", spec := "shapeLevels", unfollowed := true, recurses := true, apart := false, narrowed := true }
def ShapeLevelsUptoSaid : Prop := shapeLevelsUptoRow.holds Try.pinned (OpenSpec.upto shapeLevelsSpec)

/-- 'carracklaw16.ShapeAll', WHERE WHAT IT READS IS OF BULK AT MOST 1048576: true; the input reads as it did. -/
def shapeAllUptoRow : OpenClaim := { program := "ytlioclicopakbaa", sum := "39a94c6dd3d6a501cbf1e083212bf2663d9e2925c324528faf10f380e320c2e2", func := "carrack/carracklaw16.ShapeAll", spec := "shapeAll", unfollowed := true, recurses := true, apart := false, narrowed := true }
def ShapeAllUptoSaid : Prop := shapeAllUptoRow.holds Try.pinned (OpenSpec.upto shapeAllSpec)

/-- 'carracklaw16.ShapeMany', WHERE WHAT IT READS IS OF BULK AT MOST 1048576: true; the input reads as it did. -/
def shapeManyUptoRow : OpenClaim := { program := "ytlioclicopakbaa", sum := "39a94c6dd3d6a501cbf1e083212bf2663d9e2925c324528faf10f380e320c2e2", func := "carrack/carracklaw16.ShapeMany", spec := "shapeMany", unfollowed := true, recurses := true, apart := false, narrowed := true }
def ShapeManyUptoSaid : Prop := shapeManyUptoRow.holds Try.pinned (OpenSpec.upto shapeManySpec)

/-- 'carracklaw16.ShapeNear', WHERE WHAT IT READS IS OF BULK AT MOST 1048576: true; the input reads as it did. -/
def shapeNearUptoRow : OpenClaim := { program := "ytlioclicopakbaa", sum := "39a94c6dd3d6a501cbf1e083212bf2663d9e2925c324528faf10f380e320c2e2", func := "carrack/carracklaw16.ShapeNear", spec := "shapeNear", unfollowed := true, recurses := true, apart := false, narrowed := true }
def ShapeNearUptoSaid : Prop := shapeNearUptoRow.holds Try.pinned (OpenSpec.upto shapeNearSpec)

end Rows
end Go.Proofs.Ytlioclicopakbaa
