/-
  No cell of these rows narrows 'for every input' (looked for: loops, veiled, ifaces, maps, wideKeys, modest, calm, conditions, laid).
  DERIVED. THE GIVEN ROWS OF THIS SEAT. 4 by the template 'for every input the law returns true; each argument reads behind the call as it read before'; 0 by the template 'total and deterministic' (their statements: YtbnecclognibaaaGreatTotals.lean).
  GIVEN WITH THE SEED: the statements are not yours to turn. If you find one false, say at which input.
  Laid BY PROGRAM, IN A SANDBOX (cutbox-rows.mjs): the forced cells as the released guide's own fill.sh prints them over the translation c48bf65f376cde81… (all of the seat's roots in one cut). By AI agents, Wed Nov 11 2026. No macro, syntax, notation, axiom, sorry.
-/
import Derived.Test.YtbnecclognibaaaGreatChecked
import GoSem.Claim
import GoSem.ClaimJoined
import GoSem.ClaimMapViews
import Derived.JoinedTies
import Derived.KernelRfl
namespace Go.Proofs.YtbnecclognibaaaGreat
/- THE CELL 'sum', in the pinned program and in every row, IS THE sha256 OF THE DUMP (.gsa) THAT YtbnecclognibaaaGreatProg.lean LOADS. Nothing in Lean hashes anything: it is a label: what it is worth is what the hold of that sum in a sandbox is worth. -/
noncomputable def Tryz.pinned : Pinned := { name := "ytbnecclognibaaagreat", sum := "c48bf65f376cde818bfdbd4970f1017f4fc6bdbe3a50d5fe3b549a6479a9b73a", checked := Tryz.checked }
namespace Rows
def none {H : Type} : Left H := { results := [], args := [] }

/-- 'dunnagelaw05.AllocFirst': WHATEVER THE INPUT: true; the input reads as it did. -/
def allocFirstSpec : ChangeSpec := { name := "allocFirst", fn := fun _ => fun
  | [d] => { results := [.lit (.bool true)], args := [d] }
  | _ => none }
def allocFirstRow : OpenClaim := { program := "ytbnecclognibaaagreat", sum := "c48bf65f376cde818bfdbd4970f1017f4fc6bdbe3a50d5fe3b549a6479a9b73a", func := "dunnage/dunnagelaw05.AllocFirst", spec := "allocFirst", unfollowed := true, recurses := true, apart := false }
def AllocFirstSaid : Prop := allocFirstRow.holds Tryz.pinned (OpenSpec.ofChange allocFirstSpec)

/-- ITS FALSE NEIGHBOUR: 'it returns false'. Refute it at one input. -/
def allocFirstWrong : ChangeSpec := { name := "allocFirst", fn := fun _ => fun
  | [d] => { results := [.lit (.bool false)], args := [d] }
  | _ => none }
def AllocFirstWrongFalsely : Prop := allocFirstRow.holds Tryz.pinned (OpenSpec.ofChange allocFirstWrong)

/-- 'dunnagelaw05.AllocAborts': WHATEVER THE INPUT: true; the input reads as it did. -/
def allocAbortsSpec : ChangeSpec := { name := "allocAborts", fn := fun _ => fun
  | [d1, d2] => { results := [.lit (.bool true)], args := [d1, d2] }
  | _ => none }
def allocAbortsRow : OpenClaim := { program := "ytbnecclognibaaagreat", sum := "c48bf65f376cde818bfdbd4970f1017f4fc6bdbe3a50d5fe3b549a6479a9b73a", func := "dunnage/dunnagelaw05.AllocAborts", spec := "allocAborts", unfollowed := true, recurses := true, apart := false }
def AllocAbortsSaid : Prop := allocAbortsRow.holds Tryz.pinned (OpenSpec.ofChange allocAbortsSpec)

/-- ITS FALSE NEIGHBOUR: 'it returns false'. Refute it at one input. -/
def allocAbortsWrong : ChangeSpec := { name := "allocAborts", fn := fun _ => fun
  | [d1, d2] => { results := [.lit (.bool false)], args := [d1, d2] }
  | _ => none }
def AllocAbortsWrongFalsely : Prop := allocAbortsRow.holds Tryz.pinned (OpenSpec.ofChange allocAbortsWrong)

/-- 'dunnagelaw05.AllocPlays': WHATEVER THE INPUT: true; the input reads as it did. -/
def allocPlaysSpec : ChangeSpec := { name := "allocPlays", fn := fun _ => fun
  | [d1, d2, d3] => { results := [.lit (.bool true)], args := [d1, d2, d3] }
  | _ => none }
def allocPlaysRow : OpenClaim := { program := "ytbnecclognibaaagreat", sum := "c48bf65f376cde818bfdbd4970f1017f4fc6bdbe3a50d5fe3b549a6479a9b73a", func := "dunnage/dunnagelaw05.AllocPlays", spec := "allocPlays", unfollowed := true, recurses := true, apart := false }
def AllocPlaysSaid : Prop := allocPlaysRow.holds Tryz.pinned (OpenSpec.ofChange allocPlaysSpec)

/-- ITS FALSE NEIGHBOUR: 'it returns false'. Refute it at one input. -/
def allocPlaysWrong : ChangeSpec := { name := "allocPlays", fn := fun _ => fun
  | [d1, d2, d3] => { results := [.lit (.bool false)], args := [d1, d2, d3] }
  | _ => none }
def AllocPlaysWrongFalsely : Prop := allocPlaysRow.holds Tryz.pinned (OpenSpec.ofChange allocPlaysWrong)

/-- 'dunnagelaw05.AllocOpens': WHATEVER THE INPUT: true; the input reads as it did. -/
def allocOpensSpec : ChangeSpec := { name := "allocOpens", fn := fun _ => fun
  | [d] => { results := [.lit (.bool true)], args := [d] }
  | _ => none }
def allocOpensRow : OpenClaim := { program := "ytbnecclognibaaagreat", sum := "c48bf65f376cde818bfdbd4970f1017f4fc6bdbe3a50d5fe3b549a6479a9b73a", func := "dunnage/dunnagelaw05.AllocOpens", spec := "allocOpens", unfollowed := true, recurses := true, apart := false }
def AllocOpensSaid : Prop := allocOpensRow.holds Tryz.pinned (OpenSpec.ofChange allocOpensSpec)

/-- ITS FALSE NEIGHBOUR: 'it returns false'. Refute it at one input. -/
def allocOpensWrong : ChangeSpec := { name := "allocOpens", fn := fun _ => fun
  | [d] => { results := [.lit (.bool false)], args := [d] }
  | _ => none }
def AllocOpensWrongFalsely : Prop := allocOpensRow.holds Tryz.pinned (OpenSpec.ofChange allocOpensWrong)

/- THE SECOND FORM. 'bulk': how many values and letters a reading holds, each counted each time it is reached (what is shared counts as often as it is met; a slice's spare places count too). A statement '..UptoSaid' is the law's where the arguments, and the package variables that the reading takes, are together of bulk at most 1048576: NARROWER than '..Said'. Prove '..Said' where nothing that the law and all that it calls make is longer than what came in: it says more and counts as full. Else prove '..UptoSaid'. A law counts once. -/
mutual
def uptoBulk {H : Type} : DataW H → Nat
  | .lit (.string bytes) => bytes.length + 1
  | .lit _ => 1
  | .nil => 1
  | .ptr d => uptoBulk d + 1
  | .slice elems spare => uptoBulkAll elems + uptoBulkAll spare + 1
  | .agg parts => uptoBulkAll parts + 1
  | .iface _ d => uptoBulk d + 1
  | .map entries => uptoBulkEntries entries + 1
  | .held _ => 1
def uptoBulkAll {H : Type} : List (DataW H) → Nat
  | [] => 0
  | d :: r => uptoBulk d + uptoBulkAll r
def uptoBulkEntries {H : Type} : List (Lit × DataW H) → Nat
  | [] => 0
  | x :: r => uptoBulkEntry x + uptoBulkEntries r
def uptoBulkEntry {H : Type} : Lit × DataW H → Nat
  | (.string bytes, d) => bytes.length + uptoBulk d + 1
  | (_, d) => uptoBulk d + 1
 end
def uptoSmall : (H : Type) → List (DataW H) → Bool := fun _ ds => decide (uptoBulkAll ds ≤ 1048576)
def OpenSpec.upto (s : _root_.Go.ChangeSpec) : _root_.Go.OpenSpec := { _root_.Go.OpenSpec.ofChange s with cond := some uptoSmall }

/-- 'dunnagelaw05.AllocFirst', WHERE WHAT IT READS IS OF BULK AT MOST 1048576: true; the input reads as it did. -/
def allocFirstUptoRow : OpenClaim := { program := "ytbnecclognibaaagreat", sum := "c48bf65f376cde818bfdbd4970f1017f4fc6bdbe3a50d5fe3b549a6479a9b73a", func := "dunnage/dunnagelaw05.AllocFirst", spec := "allocFirst", unfollowed := true, recurses := true, apart := false, narrowed := true }
def AllocFirstUptoSaid : Prop := allocFirstUptoRow.holds Tryz.pinned (OpenSpec.upto allocFirstSpec)

/-- 'dunnagelaw05.AllocAborts', WHERE WHAT IT READS IS OF BULK AT MOST 1048576: true; the input reads as it did. -/
def allocAbortsUptoRow : OpenClaim := { program := "ytbnecclognibaaagreat", sum := "c48bf65f376cde818bfdbd4970f1017f4fc6bdbe3a50d5fe3b549a6479a9b73a", func := "dunnage/dunnagelaw05.AllocAborts", spec := "allocAborts", unfollowed := true, recurses := true, apart := false, narrowed := true }
def AllocAbortsUptoSaid : Prop := allocAbortsUptoRow.holds Tryz.pinned (OpenSpec.upto allocAbortsSpec)

/-- 'dunnagelaw05.AllocPlays', WHERE WHAT IT READS IS OF BULK AT MOST 1048576: true; the input reads as it did. -/
def allocPlaysUptoRow : OpenClaim := { program := "ytbnecclognibaaagreat", sum := "c48bf65f376cde818bfdbd4970f1017f4fc6bdbe3a50d5fe3b549a6479a9b73a", func := "dunnage/dunnagelaw05.AllocPlays", spec := "allocPlays", unfollowed := true, recurses := true, apart := false, narrowed := true }
def AllocPlaysUptoSaid : Prop := allocPlaysUptoRow.holds Tryz.pinned (OpenSpec.upto allocPlaysSpec)

/-- 'dunnagelaw05.AllocOpens', WHERE WHAT IT READS IS OF BULK AT MOST 1048576: true; the input reads as it did. -/
def allocOpensUptoRow : OpenClaim := { program := "ytbnecclognibaaagreat", sum := "c48bf65f376cde818bfdbd4970f1017f4fc6bdbe3a50d5fe3b549a6479a9b73a", func := "dunnage/dunnagelaw05.AllocOpens", spec := "allocOpens", unfollowed := true, recurses := true, apart := false, narrowed := true }
def AllocOpensUptoSaid : Prop := allocOpensUptoRow.holds Tryz.pinned (OpenSpec.upto allocOpensSpec)

end Rows
end Go.Proofs.YtbnecclognibaaaGreat
