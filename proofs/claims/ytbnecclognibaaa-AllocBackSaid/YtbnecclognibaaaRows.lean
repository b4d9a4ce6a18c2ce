/-
  No cell of these rows narrows 'for every input' (looked for: loops, veiled, ifaces, maps, wideKeys, modest, calm, conditions, laid).
  DERIVED. THE GIVEN ROWS OF THIS SEAT. 4 by the template 'for every input the law returns true; each argument reads behind the call as it read before'; 0 by the template 'total and deterministic' (their statements: YtbnecclognibaaaTotals.lean).
  GIVEN WITH THE SEED: the statements are not yours to turn. If you find one false, say at which input.
  Laid BY PROGRAM, IN A SANDBOX (cutbox-rows.mjs): the forced cells as the released guide's own fill.sh prints them over the translation b046745e131c3bb5… (all of the seat's roots in one cut). By AI agents, Wed Nov 11 2026. No macro, syntax, notation, axiom, sorry.
-/
import Derived.Test.YtbnecclognibaaaChecked
import GoSem.Claim
import GoSem.ClaimJoined
import GoSem.ClaimMapViews
import Derived.JoinedTies
import Derived.KernelRfl
namespace Go.Proofs.Ytbnecclognibaaa
/- THE CELL 'sum', in the pinned program and in every row, IS THE sha256 OF THE DUMP (.gsa) THAT YtbnecclognibaaaProg.lean LOADS. Nothing in Lean hashes anything: it is a label: what it is worth is what the hold of that sum in a sandbox is worth. -/
noncomputable def Try.pinned : Pinned := { name := "ytbnecclognibaaa", sum := "b046745e131c3bb5c090dcc520f089a044f765c1c810ca4b01fe5b8cd2da6c80", checked := Try.checked }
namespace Rows
def none {H : Type} : Left H := { results := [], args := [] }

/-- 'dunnagelaw05.AllocBroken': WHATEVER THE INPUT: true; the input reads as it did. -/
def allocBrokenSpec : ChangeSpec := { name := "allocBroken", fn := fun _ => fun
  | [d1, d2] => { results := [.lit (.bool true)], args := [d1, d2] }
  | _ => none }
def allocBrokenRow : OpenClaim := { program := "ytbnecclognibaaa", sum := "b046745e131c3bb5c090dcc520f089a044f765c1c810ca4b01fe5b8cd2da6c80", func := "dunnage/dunnagelaw05.AllocBroken", spec := "allocBroken", unfollowed := true, recurses := true, apart := false }
def AllocBrokenSaid : Prop := allocBrokenRow.holds Try.pinned (OpenSpec.ofChange allocBrokenSpec)

/-- ITS FALSE NEIGHBOUR: 'it returns false'. Refute it at one input. -/
def allocBrokenWrong : ChangeSpec := { name := "allocBroken", fn := fun _ => fun
  | [d1, d2] => { results := [.lit (.bool false)], args := [d1, d2] }
  | _ => none }
def AllocBrokenWrongFalsely : Prop := allocBrokenRow.holds Try.pinned (OpenSpec.ofChange allocBrokenWrong)

/-- 'dunnagelaw05.AllocFresh': WHATEVER THE INPUT: true; the input reads as it did. -/
def allocFreshSpec : ChangeSpec := { name := "allocFresh", fn := fun _ => fun
  | [d1, d2] => { results := [.lit (.bool true)], args := [d1, d2] }
  | _ => none }
def allocFreshRow : OpenClaim := { program := "ytbnecclognibaaa", sum := "b046745e131c3bb5c090dcc520f089a044f765c1c810ca4b01fe5b8cd2da6c80", func := "dunnage/dunnagelaw05.AllocFresh", spec := "allocFresh", unfollowed := true, recurses := true, apart := false }
def AllocFreshSaid : Prop := allocFreshRow.holds Try.pinned (OpenSpec.ofChange allocFreshSpec)

/-- ITS FALSE NEIGHBOUR: 'it returns false'. Refute it at one input. -/
def allocFreshWrong : ChangeSpec := { name := "allocFresh", fn := fun _ => fun
  | [d1, d2] => { results := [.lit (.bool false)], args := [d1, d2] }
  | _ => none }
def AllocFreshWrongFalsely : Prop := allocFreshRow.holds Try.pinned (OpenSpec.ofChange allocFreshWrong)

/-- 'dunnagelaw05.AllocBack': WHATEVER THE INPUT: true; the input reads as it did. -/
def allocBackSpec : ChangeSpec := { name := "allocBack", fn := fun _ => fun
  | [d1, d2] => { results := [.lit (.bool true)], args := [d1, d2] }
  | _ => none }
def allocBackRow : OpenClaim := { program := "ytbnecclognibaaa", sum := "b046745e131c3bb5c090dcc520f089a044f765c1c810ca4b01fe5b8cd2da6c80", func := "dunnage/dunnagelaw05.AllocBack", spec := "allocBack", unfollowed := true, recurses := true, apart := false }
def AllocBackSaid : Prop := allocBackRow.holds Try.pinned (OpenSpec.ofChange allocBackSpec)

/-- ITS FALSE NEIGHBOUR: 'it returns false'. Refute it at one input. -/
def allocBackWrong : ChangeSpec := { name := "allocBack", fn := fun _ => fun
  | [d1, d2] => { results := [.lit (.bool false)], args := [d1, d2] }
  | _ => none }
def AllocBackWrongFalsely : Prop := allocBackRow.holds Try.pinned (OpenSpec.ofChange allocBackWrong)

/-- 'dunnagelaw05.AllocNone': WHATEVER THE INPUT: true; the input reads as it did. -/
def allocNoneSpec : ChangeSpec := { name := "allocNone", fn := fun _ => fun
  | [d] => { results := [.lit (.bool true)], args := [d] }
  | _ => none }
def allocNoneRow : OpenClaim := { program := "ytbnecclognibaaa", sum := "b046745e131c3bb5c090dcc520f089a044f765c1c810ca4b01fe5b8cd2da6c80", func := "dunnage/dunnagelaw05.AllocNone", spec := "allocNone", unfollowed := true, recurses := true, apart := false }
def AllocNoneSaid : Prop := allocNoneRow.holds Try.pinned (OpenSpec.ofChange allocNoneSpec)

/-- ITS FALSE NEIGHBOUR: 'it returns false'. Refute it at one input. -/
def allocNoneWrong : ChangeSpec := { name := "allocNone", fn := fun _ => fun
  | [d] => { results := [.lit (.bool false)], args := [d] }
  | _ => none }
def AllocNoneWrongFalsely : Prop := allocNoneRow.holds Try.pinned (OpenSpec.ofChange allocNoneWrong)

/- THE SECOND FORM. 'bulk': how many values and letters a reading holds, each counted each time it is reached (what is shared counts as often as it is met; a slice's spare places count too). A statement '..UptoSaid' is the law's where the arguments, and the package variables that the reading takes, are together of bulk at most 1048576: NARROWER than '..Said'. Prove '..Said' where nothing that the law and all that it calls make is longer than what came in: it says more and counts as full. Else prove '..UptoSaid'. A law counts once. -/
mutual
def uptoBulk {H : Type} : DataW H → Nat
  | .lit (.string bytes) => bytes.length + 1
  | .lit _ => 1
  | .nil => 1
  | .ptr d => uptoBulk d + 1
  | .slice elems spare => uptoBulkAll elems + uptoBulkAll spare + 1
  | .agg parts => uptoBulkAll parts + 1
  | .iface _ d => uptoBulk d + 1
  | .map entries => uptoBulkEntries entries + 1
  | .held _ => 1
def uptoBulkAll {H : Type} : List (DataW H) → Nat
  | [] => 0
  | d :: r => uptoBulk d + uptoBulkAll r
def uptoBulkEntries {H : Type} : List (Lit × DataW H) → Nat
  | [] => 0
  | x :: r => uptoBulkEntry x + uptoBulkEntries r
def uptoBulkEntry {H : Type} : Lit × DataW H → Nat
  | (.string bytes, d) => bytes.length + uptoBulk d + 1
  | (_, d) => uptoBulk d + 1
 end
def uptoSmall : (H : Type) → List (DataW H) → Bool := fun _ ds => decide (uptoBulkAll ds ≤ 1048576)
def OpenSpec.upto (s : _root_.Go.ChangeSpec) : _root_.Go.OpenSpec := { _root_.Go.OpenSpec.ofChange s with cond := some uptoSmall }

/-- 'dunnagelaw05.AllocBroken', WHERE WHAT IT READS IS OF BULK AT MOST 1048576: true; the input reads as it did. -/
def allocBrokenUptoRow : OpenClaim := { program := "ytbnecclognibaaa", sum := "b046745e131c3bb5c090dcc520f089a044f765c1c810ca4b01fe5b8cd2da6c80", func := "dunnage/dunnagelaw05.AllocBroken", spec := "allocBroken", unfollowed := true, recurses := true, apart := false, narrowed := true }
def AllocBrokenUptoSaid : Prop := allocBrokenUptoRow.holds Try.pinned (OpenSpec.upto allocBrokenSpec)

/-- 'dunnagelaw05.AllocFresh', WHERE WHAT IT READS IS OF BULK AT MOST 1048576: true; the input reads as it did. -/
def allocFreshUptoRow : OpenClaim := { program := "ytbnecclognibaaa", sum := "b046745e131c3bb5c090dcc520f089a044f765c1c810ca4b01fe5b8cd2da6c80", func := "dunnage/dunnagelaw05.AllocFresh", spec := "allocFresh", unfollowed := true, recurses := true, apart := false, narrowed := true }
def AllocFreshUptoSaid : Prop := allocFreshUptoRow.holds Try.pinned (OpenSpec.upto allocFreshSpec)

/-- 'dunnagelaw05.AllocBack', WHERE WHAT IT READS IS OF BULK AT MOST 1048576: true; the input reads as it did. -/
def allocBackUptoRow : OpenClaim := { program := "ytbnecclognibaaa", sum := "b046745e131c3bb5c090dcc520f089a044f765c1c810ca4b01fe5b8cd2da6c80", func := "dunnage/dunnagelaw05.AllocBack", spec := "allocBack", unfollowed := true, recurses := true, apart := false, narrowed := true }
def AllocBackUptoSaid : Prop := allocBackUptoRow.holds Try.pinned (OpenSpec.upto allocBackSpec)

/-- 'dunnagelaw05.AllocNone', WHERE WHAT IT READS IS OF BULK AT MOST 1048576: true; the input reads as it did. -/
def allocNoneUptoRow : OpenClaim := { program := "ytbnecclognibaaa", sum := "b046745e131c3bb5c090dcc520f089a044f765c1c810ca4b01fe5b8cd2da6c80", func := "dunnage/dunnagelaw05.AllocNone", spec := "allocNone", unfollowed := true, recurses := true, apart := false, narrowed := true }
def AllocNoneUptoSaid : Prop := allocNoneUptoRow.holds Try.pinned (OpenSpec.upto allocNoneSpec)

end Rows
end Go.Proofs.Ytbnecclognibaaa
