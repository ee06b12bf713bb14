/-
  No cell of these rows narrows 'for every input' (looked for: loops, veiled, ifaces, maps, wideKeys, modest, calm, conditions, laid).
  DERIVED. THE GIVEN ROWS OF THIS SEAT. 7 by the template 'for every input the law returns true; each argument reads behind the call as it read before'; 0 by the template 'total and deterministic' (their statements: YtlcdabmclcfagaaTotals.lean).
  GIVEN WITH THE SEED: the statements are not yours to turn. If you find one false, say at which input.
  Laid BY PROGRAM, IN A SANDBOX (cutbox-rows.mjs): the forced cells as the released guide's own fill.sh prints them over the translation fd34b619e8fd46e2… (all of the seat's roots in one cut). By AI agents, Wed Nov 11 2026. No macro, syntax, notation, axiom, sorry.
-/
import Derived.Test.YtlcdabmclcfagaaChecked
import GoSem.Claim
import GoSem.ClaimJoined
import GoSem.ClaimMapViews
import Derived.JoinedTies
import Derived.KernelRfl
namespace Go.Proofs.Ytlcdabmclcfagaa
/- THE CELL 'sum', in the pinned program and in every row, IS THE sha256 OF THE DUMP (.gsa) THAT YtlcdabmclcfagaaProg.lean LOADS. Nothing in Lean hashes anything: it is a label: what it is worth is what the hold of that sum in a sandbox is worth. -/
noncomputable def Try.pinned : Pinned := { name := "ytlcdabmclcfagaa", sum := "fd34b619e8fd46e2c93fb555b7ee212bb1207818bac8c468bb1ffc3c3948d3f2", checked := Try.checked }
namespace Rows
def none {H : Type} : Left H := { results := [], args := [] }

/-- 'carracklaw03.NandLeaves': WHATEVER THE INPUT: true; the input reads as it did. -/
def nandLeavesSpec : ChangeSpec := { name := "nandLeaves", fn := fun _ => fun
  | [d1, d2, d3, d4] => { results := [.lit (.bool true)], args := [d1, d2, d3, d4] }
  | _ => none }
def nandLeavesRow : OpenClaim := { program := "ytlcdabmclcfagaa", sum := "fd34b619e8fd46e2c93fb555b7ee212bb1207818bac8c468bb1ffc3c3948d3f2", func := "carrack/carracklaw03.NandLeaves", spec := "nandLeaves", unfollowed := true, recurses := true, apart := false }
def NandLeavesSaid : Prop := nandLeavesRow.holds Try.pinned (OpenSpec.ofChange nandLeavesSpec)

/-- ITS FALSE NEIGHBOUR: 'it returns false'. Refute it at one input. -/
def nandLeavesWrong : ChangeSpec := { name := "nandLeaves", fn := fun _ => fun
  | [d1, d2, d3, d4] => { results := [.lit (.bool false)], args := [d1, d2, d3, d4] }
  | _ => none }
def NandLeavesWrongFalsely : Prop := nandLeavesRow.holds Try.pinned (OpenSpec.ofChange nandLeavesWrong)

/-- 'carracklaw03.NandPlays': WHATEVER THE INPUT: true; the input reads as it did. -/
def nandPlaysSpec : ChangeSpec := { name := "nandPlays", fn := fun _ => fun
  | [d1, d2] => { results := [.lit (.bool true)], args := [d1, d2] }
  | _ => none }
def nandPlaysRow : OpenClaim := { program := "ytlcdabmclcfagaa", sum := "fd34b619e8fd46e2c93fb555b7ee212bb1207818bac8c468bb1ffc3c3948d3f2", func := "carrack/carracklaw03.NandPlays", spec := "nandPlays", unfollowed := true, recurses := true, apart := false }
def NandPlaysSaid : Prop := nandPlaysRow.holds Try.pinned (OpenSpec.ofChange nandPlaysSpec)

/-- ITS FALSE NEIGHBOUR: 'it returns false'. Refute it at one input. -/
def nandPlaysWrong : ChangeSpec := { name := "nandPlays", fn := fun _ => fun
  | [d1, d2] => { results := [.lit (.bool false)], args := [d1, d2] }
  | _ => none }
def NandPlaysWrongFalsely : Prop := nandPlaysRow.holds Try.pinned (OpenSpec.ofChange nandPlaysWrong)

/-- 'carracklaw03.NandOthers': WHATEVER THE INPUT: true; the input reads as it did. -/
def nandOthersSpec : ChangeSpec := { name := "nandOthers", fn := fun _ => fun
  | [d1, d2, d3] => { results := [.lit (.bool true)], args := [d1, d2, d3] }
  | _ => none }
def nandOthersRow : OpenClaim := { program := "ytlcdabmclcfagaa", sum := "fd34b619e8fd46e2c93fb555b7ee212bb1207818bac8c468bb1ffc3c3948d3f2", func := "carrack/carracklaw03.NandOthers", spec := "nandOthers", unfollowed := true, recurses := true, apart := false }
def NandOthersSaid : Prop := nandOthersRow.holds Try.pinned (OpenSpec.ofChange nandOthersSpec)

/-- ITS FALSE NEIGHBOUR: 'it returns false'. Refute it at one input. -/
def nandOthersWrong : ChangeSpec := { name := "nandOthers", fn := fun _ => fun
  | [d1, d2, d3] => { results := [.lit (.bool false)], args := [d1, d2, d3] }
  | _ => none }
def NandOthersWrongFalsely : Prop := nandOthersRow.holds Try.pinned (OpenSpec.ofChange nandOthersWrong)

/-- 'carracklaw03.NandDead': WHATEVER THE INPUT: true; the input reads as it did. -/
def nandDeadSpec : ChangeSpec := { name := "nandDead", fn := fun _ => fun
  | [d1, d2, d3] => { results := [.lit (.bool true)], args := [d1, d2, d3] }
  | _ => none }
def nandDeadRow : OpenClaim := { program := "ytlcdabmclcfagaa", sum := "fd34b619e8fd46e2c93fb555b7ee212bb1207818bac8c468bb1ffc3c3948d3f2", func := "carrack/carracklaw03.NandDead", spec := "nandDead", unfollowed := true, recurses := true, apart := false }
def NandDeadSaid : Prop := nandDeadRow.holds Try.pinned (OpenSpec.ofChange nandDeadSpec)

/-- ITS FALSE NEIGHBOUR: 'it returns false'. Refute it at one input. -/
def nandDeadWrong : ChangeSpec := { name := "nandDead", fn := fun _ => fun
  | [d1, d2, d3] => { results := [.lit (.bool false)], args := [d1, d2, d3] }
  | _ => none }
def NandDeadWrongFalsely : Prop := nandDeadRow.holds Try.pinned (OpenSpec.ofChange nandDeadWrong)

/-- 'carracklaw03.NandFresh': WHATEVER THE INPUT: true; the input reads as it did. -/
def nandFreshSpec : ChangeSpec := { name := "nandFresh", fn := fun _ => fun
  | [d1, d2, d3] => { results := [.lit (.bool true)], args := [d1, d2, d3] }
  | _ => none }
def nandFreshRow : OpenClaim := { program := "ytlcdabmclcfagaa", sum := "fd34b619e8fd46e2c93fb555b7ee212bb1207818bac8c468bb1ffc3c3948d3f2", func := "carrack/carracklaw03.NandFresh", spec := "nandFresh", unfollowed := true, recurses := true, apart := false }
def NandFreshSaid : Prop := nandFreshRow.holds Try.pinned (OpenSpec.ofChange nandFreshSpec)

/-- ITS FALSE NEIGHBOUR: 'it returns false'. Refute it at one input. -/
def nandFreshWrong : ChangeSpec := { name := "nandFresh", fn := fun _ => fun
  | [d1, d2, d3] => { results := [.lit (.bool false)], args := [d1, d2, d3] }
  | _ => none }
def NandFreshWrongFalsely : Prop := nandFreshRow.holds Try.pinned (OpenSpec.ofChange nandFreshWrong)

/-- 'carracklaw03.NandNil': WHATEVER THE INPUT: true; the input reads as it did. -/
def nandNilSpec : ChangeSpec := { name := "nandNil", fn := fun _ => fun
  | [d1, d2, d3, d4] => { results := [.lit (.bool true)], args := [d1, d2, d3, d4] }
  | _ => none }
def nandNilRow : OpenClaim := { program := "ytlcdabmclcfagaa", sum := "fd34b619e8fd46e2c93fb555b7ee212bb1207818bac8c468bb1ffc3c3948d3f2", func := "carrack/carracklaw03.NandNil", spec := "nandNil", unfollowed := true, recurses := true, apart := false }
def NandNilSaid : Prop := nandNilRow.holds Try.pinned (OpenSpec.ofChange nandNilSpec)

/-- ITS FALSE NEIGHBOUR: 'it returns false'. Refute it at one input. -/
def nandNilWrong : ChangeSpec := { name := "nandNil", fn := fun _ => fun
  | [d1, d2, d3, d4] => { results := [.lit (.bool false)], args := [d1, d2, d3, d4] }
  | _ => none }
def NandNilWrongFalsely : Prop := nandNilRow.holds Try.pinned (OpenSpec.ofChange nandNilWrong)

/-- 'carracklaw03.NandLoads': WHATEVER THE INPUT: true; the input reads as it did. -/
def nandLoadsSpec : ChangeSpec := { name := "nandLoads", fn := fun _ => fun
  | [d1, d2, d3] => { results := [.lit (.bool true)], args := [d1, d2, d3] }
  | _ => none }
def nandLoadsRow : OpenClaim := { program := "ytlcdabmclcfagaa", sum := "fd34b619e8fd46e2c93fb555b7ee212bb1207818bac8c468bb1ffc3c3948d3f2", func := "carrack/carracklaw03.NandLoads", spec := "nandLoads", unfollowed := true, recurses := true, apart := false }
def NandLoadsSaid : Prop := nandLoadsRow.holds Try.pinned (OpenSpec.ofChange nandLoadsSpec)

/-- ITS FALSE NEIGHBOUR: 'it returns false'. Refute it at one input. -/
def nandLoadsWrong : ChangeSpec := { name := "nandLoads", fn := fun _ => fun
  | [d1, d2, d3] => { results := [.lit (.bool false)], args := [d1, d2, d3] }
  | _ => none }
def NandLoadsWrongFalsely : Prop := nandLoadsRow.holds Try.pinned (OpenSpec.ofChange nandLoadsWrong)

/- THE SECOND FORM. 'bulk': how many values and letters a reading holds, each counted each time it is reached (what is shared counts as often as it is met; a slice's spare places count too). A statement '..UptoSaid' is the law's where the arguments, and the package variables that the reading takes, are together of bulk at most 1048576: NARROWER than '..Said'. Prove '..Said' where nothing that the law and all that it calls make is longer than what came in: it says more and counts as full. Else prove '..UptoSaid'. A law counts once. -/
mutual
def uptoBulk {H : Type} : DataW H → Nat
  | .lit (.string bytes) => bytes.length + 1
  | .lit _ => 1
  | .nil => 1
  | .ptr d => uptoBulk d + 1
  | .slice elems spare => uptoBulkAll elems + uptoBulkAll spare + 1
  | .agg parts => uptoBulkAll parts + 1
  | .iface _ d => uptoBulk d + 1
  | .map entries => uptoBulkEntries entries + 1
  | .held _ => 1
def uptoBulkAll {H : Type} : List (DataW H) → Nat
  | [] => 0
  | d :: r => uptoBulk d + uptoBulkAll r
def uptoBulkEntries {H : Type} : List (Lit × DataW H) → Nat
  | [] => 0
  | x :: r => uptoBulkEntry x + uptoBulkEntries r
def uptoBulkEntry {H : Type} : Lit × DataW H → Nat
  | (.string bytes, d) => bytes.length + uptoBulk d + 1
  | (_, d) => uptoBulk d + 1
 end
def uptoSmall : (H : Type) → List (DataW H) → Bool := fun _ ds => decide (uptoBulkAll ds ≤ 1048576)
def OpenSpec.upto (s : _root_.Go.ChangeSpec) : _root_.Go.OpenSpec := { _root_.Go.OpenSpec.ofChange s with cond := some uptoSmall }

/-- 'carracklaw03.NandLeaves', WHERE WHAT IT READS IS OF BULK AT MOST 1048576: true; the input reads as it did. -/
def nandLeavesUptoRow : OpenClaim := { program := "ytlcdabmclcfagaa", sum := "fd34b619e8fd46e2c93fb555b7ee212bb1207818bac8c468bb1ffc3c3948d3f2", func := "carrack/carracklaw03.NandLeaves", spec := "nandLeaves", unfollowed := true, recurses := true, apart := false, narrowed := true }
def NandLeavesUptoSaid : Prop := nandLeavesUptoRow.holds Try.pinned (OpenSpec.upto nandLeavesSpec)

/-- 'carracklaw03.NandPlays', WHERE WHAT IT READS IS OF BULK AT MOST 1048576: true; the input reads as it did. -/
def nandPlaysUptoRow : OpenClaim := { program := "ytlcdabmclcfagaa", sum := "fd34b619e8fd46e2c93fb555b7ee212bb1207818bac8c468bb1ffc3c3948d3f2", func := "carrack/carracklaw03.NandPlays", spec := "nandPlays", unfollowed := true, recurses := true, apart := false, narrowed := true }
def NandPlaysUptoSaid : Prop := nandPlaysUptoRow.holds Try.pinned (OpenSpec.upto nandPlaysSpec)

/-- 'carracklaw03.NandOthers', WHERE WHAT IT READS IS OF BULK AT MOST 1048576: true; the input reads as it did. -/
def nandOthersUptoRow : OpenClaim := { program := "ytlcdabmclcfagaa", sum := "fd34b619e8fd46e2c93fb555b7ee212bb1207818bac8c468bb1ffc3c3948d3f2", func := "carrack/carracklaw03.NandOthers", spec := "nandOthers", unfollowed := true, recurses := true, apart := false, narrowed := true }
def NandOthersUptoSaid : Prop := nandOthersUptoRow.holds Try.pinned (OpenSpec.upto nandOthersSpec)

/-- 'carracklaw03.NandDead', WHERE WHAT IT READS IS OF BULK AT MOST 1048576: true; the input reads as it did. -/
def nandDeadUptoRow : OpenClaim := { program := "ytlcdabmclcfagaa", sum := "fd34b619e8fd46e2c93fb555b7ee212bb1207818bac8c468bb1ffc3c3948d3f2", func := "carrack/carracklaw03.NandDead", spec := "nandDead", unfollowed := true, recurses := true, apart := false, narrowed := true }
def NandDeadUptoSaid : Prop := nandDeadUptoRow.holds Try.pinned (OpenSpec.upto nandDeadSpec)

/-- 'carracklaw03.NandFresh', WHERE WHAT IT READS IS OF BULK AT MOST 1048576: true; the input reads as it did. -/
def nandFreshUptoRow : OpenClaim := { program := "ytlcdabmclcfagaa", sum := "fd34b619e8fd46e2c93fb555b7ee212bb1207818bac8c468bb1ffc3c3948d3f2", func := "carrack/carracklaw03.NandFresh", spec := "nandFresh", unfollowed := true, recurses := true, apart := false, narrowed := true }
def NandFreshUptoSaid : Prop := nandFreshUptoRow.holds Try.pinned (OpenSpec.upto nandFreshSpec)

/-- 'carracklaw03.NandNil', WHERE WHAT IT READS IS OF BULK AT MOST 1048576: true; the input reads as it did. -/
def nandNilUptoRow : OpenClaim := { program := "ytlcdabmclcfagaa", sum := "fd34b619e8fd46e2c93fb555b7ee212bb1207818bac8c468bb1ffc3c3948d3f2", func := "carrack/carracklaw03.NandNil", spec := "nandNil", unfollowed := true, recurses := true, apart := false, narrowed := true }
def NandNilUptoSaid : Prop := nandNilUptoRow.holds Try.pinned (OpenSpec.upto nandNilSpec)

/-- 'carracklaw03.NandLoads', WHERE WHAT IT READS IS OF BULK AT MOST 1048576: true; the input reads as it did. -/
def nandLoadsUptoRow : OpenClaim := { program := "ytlcdabmclcfagaa", sum := "fd34b619e8fd46e2c93fb555b7ee212bb1207818bac8c468bb1ffc3c3948d3f2", func := "carrack/carracklaw03.NandLoads", spec := "nandLoads", unfollowed := true, recurses := true, apart := false, narrowed := true }
def NandLoadsUptoSaid : Prop := nandLoadsUptoRow.holds Try.pinned (OpenSpec.upto nandLoadsSpec)

end Rows
end Go.Proofs.Ytlcdabmclcfagaa
