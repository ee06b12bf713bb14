/-
  No cell of these rows narrows 'for every input' (looked for: loops, veiled, ifaces, maps, wideKeys, modest, calm, conditions, laid).
  DERIVED. THE GIVEN ROWS OF THIS SEAT. 5 by the template 'for every input the law returns true; each argument reads behind the call as it read before'; 0 by the template 'total and deterministic' (their statements: YtakjjfohjodepaaTotals.lean).
  GIVEN WITH THE SEED: the statements are not yours to turn. If you find one false, say at which input.
  Laid BY PROGRAM, IN A SANDBOX (cutbox-rows.mjs): the forced cells as the released guide's own fill.sh prints them over the translation 56db3f95c497be3b… (all of the seat's roots in one cut). By AI agents, Wed Nov 11 2026. No macro, syntax, notation, axiom, sorry.
-/
import Derived.Test.YtakjjfohjodepaaChecked
import GoSem.Claim
import GoSem.ClaimJoined
import GoSem.ClaimMapViews
import Derived.JoinedTies
import Derived.KernelRfl
namespace Go.Proofs.Ytakjjfohjodepaa
/- THE CELL 'sum', in the pinned program and in every row, IS THE sha256 OF THE DUMP (.gsa) THAT YtakjjfohjodepaaProg.lean LOADS. Nothing in Lean hashes anything: it is a label: what it is worth is what the hold of that sum in a sandbox is worth. -/
noncomputable def Try.pinned : Pinned := { name := "ytakjjfohjodepaa", sum := "56db3f95c497be3b4ab29dbb9a4b3185ac78066ff42280a4443f17a399d2f194", checked := Try.checked }
namespace Rows
def none {H : Type} : Left H := { results := [], args := [] }

/-- 'carracklaw17.PointGets': WHATEVER THE INPUT: true; the input reads as it did. -/
def pointGetsSpec : ChangeSpec := { name := "pointGets", fn := fun _ => fun
  | [d] => { results := [.lit (.bool true)], args := [d] }
  | _ => none }
def pointGetsRow : OpenClaim := { program := "ytakjjfohjodepaa", sum := "56db3f95c497be3b4ab29dbb9a4b3185ac78066ff42280a4443f17a399d2f194", func := "carrack/carracklaw17.PointGets", spec := "pointGets", apart := false }
def PointGetsSaid : Prop := pointGetsRow.holds Try.pinned (OpenSpec.ofChange pointGetsSpec)

/-- ITS FALSE NEIGHBOUR: 'it returns false'. Refute it at one input. -/
def pointGetsWrong : ChangeSpec := { name := "pointGets", fn := fun _ => fun
  | [d] => { results := [.lit (.bool false)], args := [d] }
  | _ => none }
def PointGetsWrongFalsely : Prop := pointGetsRow.holds Try.pinned (OpenSpec.ofChange pointGetsWrong)

/-- 'carracklaw17.PointBack': WHATEVER THE INPUT: true; the input reads as it did. -/
def pointBackSpec : ChangeSpec := { name := "pointBack", fn := fun _ => fun
  | [d1, d2] => { results := [.lit (.bool true)], args := [d1, d2] }
  | _ => none }
def pointBackRow : OpenClaim := { program := "ytakjjfohjodepaa", sum := "56db3f95c497be3b4ab29dbb9a4b3185ac78066ff42280a4443f17a399d2f194", func := "carrack/carracklaw17.PointBack", spec := "pointBack", apart := false }
def PointBackSaid : Prop := pointBackRow.holds Try.pinned (OpenSpec.ofChange pointBackSpec)

/-- ITS FALSE NEIGHBOUR: 'it returns false'. Refute it at one input. -/
def pointBackWrong : ChangeSpec := { name := "pointBack", fn := fun _ => fun
  | [d1, d2] => { results := [.lit (.bool false)], args := [d1, d2] }
  | _ => none }
def PointBackWrongFalsely : Prop := pointBackRow.holds Try.pinned (OpenSpec.ofChange pointBackWrong)

/-- 'carracklaw17.PointOnce': WHATEVER THE INPUT: true; the input reads as it did. -/
def pointOnceSpec : ChangeSpec := { name := "pointOnce", fn := fun _ => fun
  | [d1, d2] => { results := [.lit (.bool true)], args := [d1, d2] }
  | _ => none }
def pointOnceRow : OpenClaim := { program := "ytakjjfohjodepaa", sum := "56db3f95c497be3b4ab29dbb9a4b3185ac78066ff42280a4443f17a399d2f194", func := "carrack/carracklaw17.PointOnce", spec := "pointOnce", apart := false }
def PointOnceSaid : Prop := pointOnceRow.holds Try.pinned (OpenSpec.ofChange pointOnceSpec)

/-- ITS FALSE NEIGHBOUR: 'it returns false'. Refute it at one input. -/
def pointOnceWrong : ChangeSpec := { name := "pointOnce", fn := fun _ => fun
  | [d1, d2] => { results := [.lit (.bool false)], args := [d1, d2] }
  | _ => none }
def PointOnceWrongFalsely : Prop := pointOnceRow.holds Try.pinned (OpenSpec.ofChange pointOnceWrong)

/-- 'carracklaw17.PointPuts': WHATEVER THE INPUT: true; the input reads as it did. -/
def pointPutsSpec : ChangeSpec := { name := "pointPuts", fn := fun _ => fun
  | [d1, d2, d3] => { results := [.lit (.bool true)], args := [d1, d2, d3] }
  | _ => none }
def pointPutsRow : OpenClaim := { program := "ytakjjfohjodepaa", sum := "56db3f95c497be3b4ab29dbb9a4b3185ac78066ff42280a4443f17a399d2f194", func := "carrack/carracklaw17.PointPuts", spec := "pointPuts", apart := false }
def PointPutsSaid : Prop := pointPutsRow.holds Try.pinned (OpenSpec.ofChange pointPutsSpec)

/-- ITS FALSE NEIGHBOUR: 'it returns false'. Refute it at one input. -/
def pointPutsWrong : ChangeSpec := { name := "pointPuts", fn := fun _ => fun
  | [d1, d2, d3] => { results := [.lit (.bool false)], args := [d1, d2, d3] }
  | _ => none }
def PointPutsWrongFalsely : Prop := pointPutsRow.holds Try.pinned (OpenSpec.ofChange pointPutsWrong)

/-- 'carracklaw17.PointNewer': WHATEVER THE INPUT: true; the input reads as it did. -/
def pointNewerSpec : ChangeSpec := { name := "pointNewer", fn := fun _ => fun
  | [d1, d2, d3] => { results := [.lit (.bool true)], args := [d1, d2, d3] }
  | _ => none }
def pointNewerRow : OpenClaim := { program := "ytakjjfohjodepaa", sum := "56db3f95c497be3b4ab29dbb9a4b3185ac78066ff42280a4443f17a399d2f194", func := "carrack/carracklaw17.PointNewer", spec := "pointNewer", apart := false }
def PointNewerSaid : Prop := pointNewerRow.holds Try.pinned (OpenSpec.ofChange pointNewerSpec)

/-- ITS FALSE NEIGHBOUR: 'it returns false'. Refute it at one input. -/
def pointNewerWrong : ChangeSpec := { name := "pointNewer", fn := fun _ => fun
  | [d1, d2, d3] => { results := [.lit (.bool false)], args := [d1, d2, d3] }
  | _ => none }
def PointNewerWrongFalsely : Prop := pointNewerRow.holds Try.pinned (OpenSpec.ofChange pointNewerWrong)

/- THE SECOND FORM. 'bulk': how many values and letters a reading holds, each counted each time it is reached (what is shared counts as often as it is met; a slice's spare places count too). A statement '..UptoSaid' is the law's where the arguments, and the package variables that the reading takes, are together of bulk at most 1048576: NARROWER than '..Said'. Prove '..Said' where nothing that the law and all that it calls make is longer than what came in: it says more and counts as full. Else prove '..UptoSaid'. A law counts once. -/
mutual
def uptoBulk {H : Type} : DataW H → Nat
  | .lit (.string bytes) => bytes.length + 1
  | .lit _ => 1
  | .nil => 1
  | .ptr d => uptoBulk d + 1
  | .slice elems spare => uptoBulkAll elems + uptoBulkAll spare + 1
  | .agg parts => uptoBulkAll parts + 1
  | .iface _ d => uptoBulk d + 1
  | .map entries => uptoBulkEntries entries + 1
  | .held _ => 1
def uptoBulkAll {H : Type} : List (DataW H) → Nat
  | [] => 0
  | d :: r => uptoBulk d + uptoBulkAll r
def uptoBulkEntries {H : Type} : List (Lit × DataW H) → Nat
  | [] => 0
  | x :: r => uptoBulkEntry x + uptoBulkEntries r
def uptoBulkEntry {H : Type} : Lit × DataW H → Nat
  | (.string bytes, d) => bytes.length + uptoBulk d + 1
  | (_, d) => uptoBulk d + 1
 end
def uptoSmall : (H : Type) → List (DataW H) → Bool := fun _ ds => decide (uptoBulkAll ds ≤ 1048576)
def OpenSpec.upto (s : _root_.Go.ChangeSpec) : _root_.Go.OpenSpec := { _root_.Go.OpenSpec.ofChange s with cond := some uptoSmall }

/-- 'carracklaw17.PointGets', WHERE WHAT IT READS IS OF BULK AT MOST 1048576: true; the input reads as it did. -/
def pointGetsUptoRow : OpenClaim := { program := "ytakjjfohjodepaa", sum := "56db3f95c497be3b4ab29dbb9a4b3185ac78066ff42280a4443f17a399d2f194", func := "carrack/carracklaw17.PointGets", spec := "pointGets", apart := false, narrowed := true }
def PointGetsUptoSaid : Prop := pointGetsUptoRow.holds Try.pinned (OpenSpec.upto pointGetsSpec)

/-- 'carracklaw17.PointBack', WHERE WHAT IT READS IS OF BULK AT MOST 1048576: true; the input reads as it did. -/
def pointBackUptoRow : OpenClaim := { program := "ytakjjfohjodepaa", sum := "56db3f95c497be3b4ab29dbb9a4b3185ac78066ff42280a4443f17a399d2f194", func := "carrack/carracklaw17.PointBack", spec := "pointBack", apart := false, narrowed := true }
def PointBackUptoSaid : Prop := pointBackUptoRow.holds Try.pinned (OpenSpec.upto pointBackSpec)

/-- 'carracklaw17.PointOnce', WHERE WHAT IT READS IS OF BULK AT MOST 1048576: true; the input reads as it did. -/
def pointOnceUptoRow : OpenClaim := { program := "ytakjjfohjodepaa", sum := "56db3f95c497be3b4ab29dbb9a4b3185ac78066ff42280a4443f17a399d2f194", func := "carrack/carracklaw17.PointOnce", spec := "pointOnce", apart := false, narrowed := true }
def PointOnceUptoSaid : Prop := pointOnceUptoRow.holds Try.pinned (OpenSpec.upto pointOnceSpec)

/-- 'carracklaw17.PointPuts', WHERE WHAT IT READS IS OF BULK AT MOST 1048576: true; the input reads as it did. -/
def pointPutsUptoRow : OpenClaim := { program := "ytakjjfohjodepaa", sum := "56db3f95c497be3b4ab29dbb9a4b3185ac78066ff42280a4443f17a399d2f194", func := "carrack/carracklaw17.PointPuts", spec := "pointPuts", apart := false, narrowed := true }
def PointPutsUptoSaid : Prop := pointPutsUptoRow.holds Try.pinned (OpenSpec.upto pointPutsSpec)

/-- 'carracklaw17.PointNewer', WHERE WHAT IT READS IS OF BULK AT MOST 1048576: true; the input reads as it did. -/
def pointNewerUptoRow : OpenClaim := { program := "ytakjjfohjodepaa", sum := "56db3f95c497be3b4ab29dbb9a4b3185ac78066ff42280a4443f17a399d2f194", func := "carrack/carracklaw17.PointNewer", spec := "pointNewer", apart := false, narrowed := true }
def PointNewerUptoSaid : Prop := pointNewerUptoRow.holds Try.pinned (OpenSpec.upto pointNewerSpec)

end Rows
end Go.Proofs.Ytakjjfohjodepaa
