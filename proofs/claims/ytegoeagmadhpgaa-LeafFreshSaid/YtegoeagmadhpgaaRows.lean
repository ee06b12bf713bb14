/-
  No cell of these rows narrows 'for every input' (looked for: loops, veiled, ifaces, maps, wideKeys, modest, calm, conditions, laid).
  DERIVED. THE GIVEN ROWS OF THIS SEAT. 5 by the template 'for every input the law returns true; each argument reads behind the call as it read before'; 0 by the template 'total and deterministic' (their statements: YtegoeagmadhpgaaTotals.lean).
  GIVEN WITH THE SEED: the statements are not yours to turn. If you find one false, say at which input.
  Laid BY PROGRAM, IN A SANDBOX (cutbox-rows.mjs): the forced cells as the released guide's own fill.sh prints them over the translation 57a3c71ee9d1e101… (all of the seat's roots in one cut). By AI agents, Wed Nov 11 2026. No macro, syntax, notation, axiom, sorry.
-/
import Derived.Test.YtegoeagmadhpgaaChecked
import GoSem.Claim
import GoSem.ClaimJoined
import GoSem.ClaimMapViews
import Derived.JoinedTies
import Derived.KernelRfl
namespace Go.Proofs.Ytegoeagmadhpgaa
/- THE CELL 'sum', in the pinned program and in every row, IS THE sha256 OF THE DUMP (.gsa) THAT YtegoeagmadhpgaaProg.lean LOADS. Nothing in Lean hashes anything: it is a label: what it is worth is what the hold of that sum in a sandbox is worth. -/
noncomputable def Try.pinned : Pinned := { name := "ytegoeagmadhpgaa", sum := "57a3c71ee9d1e101ffdf9e2a0ae237a163c225386e700ad45f251e007f20ea93", checked := Try.checked }
namespace Rows
def none {H : Type} : Left H := { results := [], args := [] }

/-- 'carracklaw15.LeafFresh': WHATEVER THE INPUT: true; the input reads as it did. -/
def leafFreshSpec : ChangeSpec := { name := "leafFresh", fn := fun _ => fun
  | [d] => { results := [.lit (.bool true)], args := [d] }
  | _ => none }
def leafFreshRow : OpenClaim := { program := "ytegoeagmadhpgaa", sum := "57a3c71ee9d1e101ffdf9e2a0ae237a163c225386e700ad45f251e007f20ea93", func := "carrack/carracklaw15.LeafFresh", spec := "leafFresh", unfollowed := true, recurses := true, apart := false }
def LeafFreshSaid : Prop := leafFreshRow.holds Try.pinned (OpenSpec.ofChange leafFreshSpec)

/-- ITS FALSE NEIGHBOUR: 'it returns false'. Refute it at one input. -/
def leafFreshWrong : ChangeSpec := { name := "leafFresh", fn := fun _ => fun
  | [d] => { results := [.lit (.bool false)], args := [d] }
  | _ => none }
def LeafFreshWrongFalsely : Prop := leafFreshRow.holds Try.pinned (OpenSpec.ofChange leafFreshWrong)

/-- 'carracklaw15.LeafLengths': WHATEVER THE INPUT: true; the input reads as it did. -/
def leafLengthsSpec : ChangeSpec := { name := "leafLengths", fn := fun _ => fun
  | [d] => { results := [.lit (.bool true)], args := [d] }
  | _ => none }
def leafLengthsRow : OpenClaim := { program := "ytegoeagmadhpgaa", sum := "57a3c71ee9d1e101ffdf9e2a0ae237a163c225386e700ad45f251e007f20ea93", func := "carrack/carracklaw15.LeafLengths", spec := "leafLengths", unfollowed := true, recurses := true, apart := false }
def LeafLengthsSaid : Prop := leafLengthsRow.holds Try.pinned (OpenSpec.ofChange leafLengthsSpec)

/-- ITS FALSE NEIGHBOUR: 'it returns false'. Refute it at one input. -/
def leafLengthsWrong : ChangeSpec := { name := "leafLengths", fn := fun _ => fun
  | [d] => { results := [.lit (.bool false)], args := [d] }
  | _ => none }
def LeafLengthsWrongFalsely : Prop := leafLengthsRow.holds Try.pinned (OpenSpec.ofChange leafLengthsWrong)

/-- 'carracklaw15.LeafPuts': WHATEVER THE INPUT: true; the input reads as it did. -/
def leafPutsSpec : ChangeSpec := { name := "leafPuts", fn := fun _ => fun
  | [d1, d2, d3] => { results := [.lit (.bool true)], args := [d1, d2, d3] }
  | _ => none }
def leafPutsRow : OpenClaim := { program := "ytegoeagmadhpgaa", sum := "57a3c71ee9d1e101ffdf9e2a0ae237a163c225386e700ad45f251e007f20ea93", func := "carrack/carracklaw15.LeafPuts", spec := "leafPuts", unfollowed := true, recurses := true, apart := false }
def LeafPutsSaid : Prop := leafPutsRow.holds Try.pinned (OpenSpec.ofChange leafPutsSpec)

/-- ITS FALSE NEIGHBOUR: 'it returns false'. Refute it at one input. -/
def leafPutsWrong : ChangeSpec := { name := "leafPuts", fn := fun _ => fun
  | [d1, d2, d3] => { results := [.lit (.bool false)], args := [d1, d2, d3] }
  | _ => none }
def LeafPutsWrongFalsely : Prop := leafPutsRow.holds Try.pinned (OpenSpec.ofChange leafPutsWrong)

/-- 'carracklaw15.LeafBack': WHATEVER THE INPUT: true; the input reads as it did. -/
def leafBackSpec : ChangeSpec := { name := "leafBack", fn := fun _ => fun
  | [d1, d2, d3] => { results := [.lit (.bool true)], args := [d1, d2, d3] }
  | _ => none }
def leafBackRow : OpenClaim := { program := "ytegoeagmadhpgaa", sum := "57a3c71ee9d1e101ffdf9e2a0ae237a163c225386e700ad45f251e007f20ea93", func := "carrack/carracklaw15.LeafBack", spec := "leafBack", unfollowed := true, recurses := true, apart := false }
def LeafBackSaid : Prop := leafBackRow.holds Try.pinned (OpenSpec.ofChange leafBackSpec)

/-- ITS FALSE NEIGHBOUR: 'it returns false'. Refute it at one input. -/
def leafBackWrong : ChangeSpec := { name := "leafBack", fn := fun _ => fun
  | [d1, d2, d3] => { results := [.lit (.bool false)], args := [d1, d2, d3] }
  | _ => none }
def LeafBackWrongFalsely : Prop := leafBackRow.holds Try.pinned (OpenSpec.ofChange leafBackWrong)

/-- 'carracklaw15.LeafOnce': WHATEVER THE INPUT: true; the input reads as it did. -/
def leafOnceSpec : ChangeSpec := { name := "leafOnce", fn := fun _ => fun
  | [d] => { results := [.lit (.bool true)], args := [d] }
  | _ => none }
def leafOnceRow : OpenClaim := { program := "ytegoeagmadhpgaa", sum := "57a3c71ee9d1e101ffdf9e2a0ae237a163c225386e700ad45f251e007f20ea93", func := "carrack/carracklaw15.LeafOnce", spec := "leafOnce", unfollowed := true, recurses := true, apart := false }
def LeafOnceSaid : Prop := leafOnceRow.holds Try.pinned (OpenSpec.ofChange leafOnceSpec)

/-- ITS FALSE NEIGHBOUR: 'it returns false'. Refute it at one input. -/
def leafOnceWrong : ChangeSpec := { name := "leafOnce", fn := fun _ => fun
  | [d] => { results := [.lit (.bool false)], args := [d] }
  | _ => none }
def LeafOnceWrongFalsely : Prop := leafOnceRow.holds Try.pinned (OpenSpec.ofChange leafOnceWrong)

/- THE SECOND FORM. 'bulk': how many values and letters a reading holds, each counted each time it is reached (what is shared counts as often as it is met; a slice's spare places count too). A statement '..UptoSaid' is the law's where the arguments, and the package variables that the reading takes, are together of bulk at most 1048576: NARROWER than '..Said'. Prove '..Said' where nothing that the law and all that it calls make is longer than what came in: it says more and counts as full. Else prove '..UptoSaid'. A law counts once. -/
mutual
def uptoBulk {H : Type} : DataW H → Nat
  | .lit (.string bytes) => bytes.length + 1
  | .lit _ => 1
  | .nil => 1
  | .ptr d => uptoBulk d + 1
  | .slice elems spare => uptoBulkAll elems + uptoBulkAll spare + 1
  | .agg parts => uptoBulkAll parts + 1
  | .iface _ d => uptoBulk d + 1
  | .map entries => uptoBulkEntries entries + 1
  | .held _ => 1
def uptoBulkAll {H : Type} : List (DataW H) → Nat
  | [] => 0
  | d :: r => uptoBulk d + uptoBulkAll r
def uptoBulkEntries {H : Type} : List (Lit × DataW H) → Nat
  | [] => 0
  | x :: r => uptoBulkEntry x + uptoBulkEntries r
def uptoBulkEntry {H : Type} : Lit × DataW H → Nat
  | (.string bytes, d) => bytes.length + uptoBulk d + 1
  | (_, d) => uptoBulk d + 1
 end
def uptoSmall : (H : Type) → List (DataW H) → Bool := fun _ ds => decide (uptoBulkAll ds ≤ 1048576)
def OpenSpec.upto (s : _root_.Go.ChangeSpec) : _root_.Go.OpenSpec := { _root_.Go.OpenSpec.ofChange s with cond := some uptoSmall }

/-- 'carracklaw15.LeafFresh', WHERE WHAT IT READS IS OF BULK AT MOST 1048576: true; the input reads as it did. -/
def leafFreshUptoRow : OpenClaim := { program := "ytegoeagmadhpgaa", sum := "57a3c71ee9d1e101ffdf9e2a0ae237a163c225386e700ad45f251e007f20ea93", func := "carrack/carracklaw15.LeafFresh", spec := "leafFresh", unfollowed := true, recurses := true, apart := false, narrowed := true }
def LeafFreshUptoSaid : Prop := leafFreshUptoRow.holds Try.pinned (OpenSpec.upto leafFreshSpec)

/-- 'carracklaw15.LeafLengths', WHERE WHAT IT READS IS OF BULK AT MOST 1048576: true; the input reads as it did. -/
def leafLengthsUptoRow : OpenClaim := { program := "ytegoeagmadhpgaa", sum := "57a3c71ee9d1e101ffdf9e2a0ae237a163c225386e700ad45f251e007f20ea93", func := "carrack/carracklaw15.LeafLengths", spec := "leafLengths", unfollowed := true, recurses := true, apart := false, narrowed := true }
def LeafLengthsUptoSaid : Prop := leafLengthsUptoRow.holds Try.pinned (OpenSpec.upto leafLengthsSpec)

/-- 'carracklaw15.LeafPuts', WHERE WHAT IT READS IS OF BULK AT MOST 1048576: true; the input reads as it did. -/
def leafPutsUptoRow : OpenClaim := { program := "ytegoeagmadhpgaa", sum := "57a3c71ee9d1e101ffdf9e2a0ae237a163c225386e700ad45f251e007f20ea93", func := "carrack/carracklaw15.LeafPuts", spec := "leafPuts", unfollowed := true, recurses := true, apart := false, narrowed := true }
def LeafPutsUptoSaid : Prop := leafPutsUptoRow.holds Try.pinned (OpenSpec.upto leafPutsSpec)

/-- 'carracklaw15.LeafBack', WHERE WHAT IT READS IS OF BULK AT MOST 1048576: true; the input reads as it did. -/
def leafBackUptoRow : OpenClaim := { program := "ytegoeagmadhpgaa", sum := "57a3c71ee9d1e101ffdf9e2a0ae237a163c225386e700ad45f251e007f20ea93", func := "carrack/carracklaw15.LeafBack", spec := "leafBack", unfollowed := true, recurses := true, apart := false, narrowed := true }
def LeafBackUptoSaid : Prop := leafBackUptoRow.holds Try.pinned (OpenSpec.upto leafBackSpec)

/-- 'carracklaw15.LeafOnce', WHERE WHAT IT READS IS OF BULK AT MOST 1048576: true; the input reads as it did. -/
def leafOnceUptoRow : OpenClaim := { program := "ytegoeagmadhpgaa", sum := "57a3c71ee9d1e101ffdf9e2a0ae237a163c225386e700ad45f251e007f20ea93", func := "carrack/carracklaw15.LeafOnce", spec := "leafOnce", unfollowed := true, recurses := true, apart := false, narrowed := true }
def LeafOnceUptoSaid : Prop := leafOnceUptoRow.holds Try.pinned (OpenSpec.upto leafOnceSpec)

end Rows
end Go.Proofs.Ytegoeagmadhpgaa
