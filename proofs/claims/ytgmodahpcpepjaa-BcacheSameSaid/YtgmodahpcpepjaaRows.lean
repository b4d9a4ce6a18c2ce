/-
  No cell of these rows narrows 'for every input' (looked for: loops, veiled, ifaces, maps, wideKeys, modest, calm, conditions, laid).
  DERIVED. THE GIVEN ROWS OF THIS SEAT. 6 by the template 'for every input the law returns true; each argument reads behind the call as it read before'; 0 by the template 'total and deterministic' (their statements: YtgmodahpcpepjaaTotals.lean).
  GIVEN WITH THE SEED: the statements are not yours to turn. If you find one false, say at which input.
  Laid BY PROGRAM, IN A SANDBOX (cutbox-rows.mjs): the forced cells as the released guide's own fill.sh prints them over the translation 3f4226fea0eb8cbf… (all of the seat's roots in one cut). By AI agents, Wed Nov 11 2026. No macro, syntax, notation, axiom, sorry.
-/
import Derived.Test.YtgmodahpcpepjaaChecked
import GoSem.Claim
import GoSem.ClaimJoined
import GoSem.ClaimMapViews
import Derived.JoinedTies
import Derived.KernelRfl
namespace Go.Proofs.Ytgmodahpcpepjaa
/- THE CELL 'sum', in the pinned program and in every row, IS THE sha256 OF THE DUMP (.gsa) THAT YtgmodahpcpepjaaProg.lean LOADS. Nothing in Lean hashes anything: it is a label: what it is worth is what the hold of that sum in a sandbox is worth. -/
noncomputable def Try.pinned : Pinned := { name := "ytgmodahpcpepjaa", sum := "3f4226fea0eb8cbfabe31855eaa094a42b2d9ee5a1e3052e99795d2a86597a39", checked := Try.checked }
namespace Rows
def none {H : Type} : Left H := { results := [], args := [] }

/-- 'dunnagelaw04.BcacheOwn': WHATEVER THE INPUT: true; the input reads as it did. -/
def bcacheOwnSpec : ChangeSpec := { name := "bcacheOwn", fn := fun _ => fun
  | [d] => { results := [.lit (.bool true)], args := [d] }
  | _ => none }
def bcacheOwnRow : OpenClaim := { program := "ytgmodahpcpepjaa", sum := "3f4226fea0eb8cbfabe31855eaa094a42b2d9ee5a1e3052e99795d2a86597a39", func := "dunnage/dunnagelaw04.BcacheOwn", spec := "bcacheOwn", unfollowed := true, recurses := true, apart := false }
def BcacheOwnSaid : Prop := bcacheOwnRow.holds Try.pinned (OpenSpec.ofChange bcacheOwnSpec)

/-- ITS FALSE NEIGHBOUR: 'it returns false'. Refute it at one input. -/
def bcacheOwnWrong : ChangeSpec := { name := "bcacheOwn", fn := fun _ => fun
  | [d] => { results := [.lit (.bool false)], args := [d] }
  | _ => none }
def BcacheOwnWrongFalsely : Prop := bcacheOwnRow.holds Try.pinned (OpenSpec.ofChange bcacheOwnWrong)

/-- 'dunnagelaw04.BcacheFull': WHATEVER THE INPUT: true; the input reads as it did. -/
def bcacheFullSpec : ChangeSpec := { name := "bcacheFull", fn := fun _ => fun
  | [d1, d2] => { results := [.lit (.bool true)], args := [d1, d2] }
  | _ => none }
def bcacheFullRow : OpenClaim := { program := "ytgmodahpcpepjaa", sum := "3f4226fea0eb8cbfabe31855eaa094a42b2d9ee5a1e3052e99795d2a86597a39", func := "dunnage/dunnagelaw04.BcacheFull", spec := "bcacheFull", unfollowed := true, recurses := true, apart := false }
def BcacheFullSaid : Prop := bcacheFullRow.holds Try.pinned (OpenSpec.ofChange bcacheFullSpec)

/-- ITS FALSE NEIGHBOUR: 'it returns false'. Refute it at one input. -/
def bcacheFullWrong : ChangeSpec := { name := "bcacheFull", fn := fun _ => fun
  | [d1, d2] => { results := [.lit (.bool false)], args := [d1, d2] }
  | _ => none }
def BcacheFullWrongFalsely : Prop := bcacheFullRow.holds Try.pinned (OpenSpec.ofChange bcacheFullWrong)

/-- 'dunnagelaw04.BcacheAborts': WHATEVER THE INPUT: true; the input reads as it did. -/
def bcacheAbortsSpec : ChangeSpec := { name := "bcacheAborts", fn := fun _ => fun
  | [d] => { results := [.lit (.bool true)], args := [d] }
  | _ => none }
def bcacheAbortsRow : OpenClaim := { program := "ytgmodahpcpepjaa", sum := "3f4226fea0eb8cbfabe31855eaa094a42b2d9ee5a1e3052e99795d2a86597a39", func := "dunnage/dunnagelaw04.BcacheAborts", spec := "bcacheAborts", unfollowed := true, recurses := true, apart := false }
def BcacheAbortsSaid : Prop := bcacheAbortsRow.holds Try.pinned (OpenSpec.ofChange bcacheAbortsSpec)

/-- ITS FALSE NEIGHBOUR: 'it returns false'. Refute it at one input. -/
def bcacheAbortsWrong : ChangeSpec := { name := "bcacheAborts", fn := fun _ => fun
  | [d] => { results := [.lit (.bool false)], args := [d] }
  | _ => none }
def BcacheAbortsWrongFalsely : Prop := bcacheAbortsRow.holds Try.pinned (OpenSpec.ofChange bcacheAbortsWrong)

/-- 'dunnagelaw04.BcacheNone': WHATEVER THE INPUT: true; the input reads as it did. -/
def bcacheNoneSpec : ChangeSpec := { name := "bcacheNone", fn := fun _ => fun
  | [d] => { results := [.lit (.bool true)], args := [d] }
  | _ => none }
def bcacheNoneRow : OpenClaim := { program := "ytgmodahpcpepjaa", sum := "3f4226fea0eb8cbfabe31855eaa094a42b2d9ee5a1e3052e99795d2a86597a39", func := "dunnage/dunnagelaw04.BcacheNone", spec := "bcacheNone", unfollowed := true, recurses := true, apart := false }
def BcacheNoneSaid : Prop := bcacheNoneRow.holds Try.pinned (OpenSpec.ofChange bcacheNoneSpec)

/-- ITS FALSE NEIGHBOUR: 'it returns false'. Refute it at one input. -/
def bcacheNoneWrong : ChangeSpec := { name := "bcacheNone", fn := fun _ => fun
  | [d] => { results := [.lit (.bool false)], args := [d] }
  | _ => none }
def BcacheNoneWrongFalsely : Prop := bcacheNoneRow.holds Try.pinned (OpenSpec.ofChange bcacheNoneWrong)

/-- 'dunnagelaw04.BcacheSame': WHATEVER THE INPUT: true; the input reads as it did. -/
def bcacheSameSpec : ChangeSpec := { name := "bcacheSame", fn := fun _ => fun
  | [d1, d2, d3] => { results := [.lit (.bool true)], args := [d1, d2, d3] }
  | _ => none }
def bcacheSameRow : OpenClaim := { program := "ytgmodahpcpepjaa", sum := "3f4226fea0eb8cbfabe31855eaa094a42b2d9ee5a1e3052e99795d2a86597a39", func := "dunnage/dunnagelaw04.BcacheSame", spec := "bcacheSame", unfollowed := true, recurses := true, apart := false }
def BcacheSameSaid : Prop := bcacheSameRow.holds Try.pinned (OpenSpec.ofChange bcacheSameSpec)

/-- ITS FALSE NEIGHBOUR: 'it returns false'. Refute it at one input. -/
def bcacheSameWrong : ChangeSpec := { name := "bcacheSame", fn := fun _ => fun
  | [d1, d2, d3] => { results := [.lit (.bool false)], args := [d1, d2, d3] }
  | _ => none }
def BcacheSameWrongFalsely : Prop := bcacheSameRow.holds Try.pinned (OpenSpec.ofChange bcacheSameWrong)

/-- 'dunnagelaw04.BcacheCrashes': WHATEVER THE INPUT: true; the input reads as it did. -/
def bcacheCrashesSpec : ChangeSpec := { name := "bcacheCrashes", fn := fun _ => fun
  | [d1, d2, d3] => { results := [.lit (.bool true)], args := [d1, d2, d3] }
  | _ => none }
def bcacheCrashesRow : OpenClaim := { program := "ytgmodahpcpepjaa", sum := "3f4226fea0eb8cbfabe31855eaa094a42b2d9ee5a1e3052e99795d2a86597a39", func := "dunnage/dunnagelaw04.BcacheCrashes", spec := "bcacheCrashes", unfollowed := true, recurses := true, apart := false }
def BcacheCrashesSaid : Prop := bcacheCrashesRow.holds Try.pinned (OpenSpec.ofChange bcacheCrashesSpec)

/-- ITS FALSE NEIGHBOUR: 'it returns false'. Refute it at one input. -/
def bcacheCrashesWrong : ChangeSpec := { name := "bcacheCrashes", fn := fun _ => fun
  | [d1, d2, d3] => { results := [.lit (.bool false)], args := [d1, d2, d3] }
  | _ => none }
def BcacheCrashesWrongFalsely : Prop := bcacheCrashesRow.holds Try.pinned (OpenSpec.ofChange bcacheCrashesWrong)

/- THE SECOND FORM. 'bulk': how many values and letters a reading holds, each counted each time it is reached (what is shared counts as often as it is met; a slice's spare places count too). A statement '..UptoSaid' is the law's where the arguments, and the package variables that the reading takes, are together of bulk at most 1048576: NARROWER than '..Said'. Prove '..Said' where nothing that the law and all that it calls make is longer than what came in: it says more and counts as full. Else prove '..UptoSaid'. A law counts once. -/
mutual
def uptoBulk {H : Type} : DataW H → Nat
  | .lit (.string bytes) => bytes.length + 1
  | .lit _ => 1
  | .nil => 1
  | .ptr d => uptoBulk d + 1
  | .slice elems spare => uptoBulkAll elems + uptoBulkAll spare + 1
  | .agg parts => uptoBulkAll parts + 1
  | .iface _ d => uptoBulk d + 1
  | .map entries => uptoBulkEntries entries + 1
  | .held _ => 1
def uptoBulkAll {H : Type} : List (DataW H) → Nat
  | [] => 0
  | d :: r => uptoBulk d + uptoBulkAll r
def uptoBulkEntries {H : Type} : List (Lit × DataW H) → Nat
  | [] => 0
  | x :: r => uptoBulkEntry x + uptoBulkEntries r
def uptoBulkEntry {H : Type} : Lit × DataW H → Nat
  | (.string bytes, d) => bytes.length + uptoBulk d + 1
  | (_, d) => uptoBulk d + 1
 end
def uptoSmall : (H : Type) → List (DataW H) → Bool := fun _ ds => decide (uptoBulkAll ds ≤ 1048576)
def OpenSpec.upto (s : _root_.Go.ChangeSpec) : _root_.Go.OpenSpec := { _root_.Go.OpenSpec.ofChange s with cond := some uptoSmall }

/-- 'dunnagelaw04.BcacheOwn', WHERE WHAT IT READS IS OF BULK AT MOST 1048576: true; the input reads as it did. -/
def bcacheOwnUptoRow : OpenClaim := { program := "ytgmodahpcpepjaa", sum := "3f4226fea0eb8cbfabe31855eaa094a42b2d9ee5a1e3052e99795d2a86597a39", func := "dunnage/dunnagelaw04.BcacheOwn", spec := "bcacheOwn", unfollowed := true, recurses := true, apart := false, narrowed := true }
def BcacheOwnUptoSaid : Prop := bcacheOwnUptoRow.holds Try.pinned (OpenSpec.upto bcacheOwnSpec)

/-- 'dunnagelaw04.BcacheFull', WHERE WHAT IT READS IS OF BULK AT MOST 1048576: true; the input reads as it did. -/
def bcacheFullUptoRow : OpenClaim := { program := "ytgmodahpcpepjaa", sum := "3f4226fea0eb8cbfabe31855eaa094a42b2d9ee5a1e3052e99795d2a86597a39", func := "dunnage/dunnagelaw04.BcacheFull", spec := "bcacheFull", unfollowed := true, recurses := true, apart := false, narrowed := true }
def BcacheFullUptoSaid : Prop := bcacheFullUptoRow.holds Try.pinned (OpenSpec.upto bcacheFullSpec)

/-- 'dunnagelaw04.BcacheAborts', WHERE WHAT IT READS IS OF BULK AT MOST 1048576: true; the input reads as it did. -/
def bcacheAbortsUptoRow : OpenClaim := { program := "ytgmodahpcpepjaa", sum := "3f4226fea0eb8cbfabe31855eaa094a42b2d9ee5a1e3052e99795d2a86597a39", func := "dunnage/dunnagelaw04.BcacheAborts", spec := "bcacheAborts", unfollowed := true, recurses := true, apart := false, narrowed := true }
def BcacheAbortsUptoSaid : Prop := bcacheAbortsUptoRow.holds Try.pinned (OpenSpec.upto bcacheAbortsSpec)

/-- 'dunnagelaw04.BcacheNone', WHERE WHAT IT READS IS OF BULK AT MOST 1048576: true; the input reads as it did. -/
def bcacheNoneUptoRow : OpenClaim := { program := "ytgmodahpcpepjaa", sum := "3f4226fea0eb8cbfabe31855eaa094a42b2d9ee5a1e3052e99795d2a86597a39", func := "dunnage/dunnagelaw04.BcacheNone", spec := "bcacheNone", unfollowed := true, recurses := true, apart := false, narrowed := true }
def BcacheNoneUptoSaid : Prop := bcacheNoneUptoRow.holds Try.pinned (OpenSpec.upto bcacheNoneSpec)

/-- 'dunnagelaw04.BcacheSame', WHERE WHAT IT READS IS OF BULK AT MOST 1048576: true; the input reads as it did. -/
def bcacheSameUptoRow : OpenClaim := { program := "ytgmodahpcpepjaa", sum := "3f4226fea0eb8cbfabe31855eaa094a42b2d9ee5a1e3052e99795d2a86597a39", func := "dunnage/dunnagelaw04.BcacheSame", spec := "bcacheSame", unfollowed := true, recurses := true, apart := false, narrowed := true }
def BcacheSameUptoSaid : Prop := bcacheSameUptoRow.holds Try.pinned (OpenSpec.upto bcacheSameSpec)

/-- 'dunnagelaw04.BcacheCrashes', WHERE WHAT IT READS IS OF BULK AT MOST 1048576: true; the input reads as it did. -/
def bcacheCrashesUptoRow : OpenClaim := { program := "ytgmodahpcpepjaa", sum := "3f4226fea0eb8cbfabe31855eaa094a42b2d9ee5a1e3052e99795d2a86597a39", func := "dunnage/dunnagelaw04.BcacheCrashes", spec := "bcacheCrashes", unfollowed := true, recurses := true, apart := false, narrowed := true }
def BcacheCrashesUptoSaid : Prop := bcacheCrashesUptoRow.holds Try.pinned (OpenSpec.upto bcacheCrashesSpec)

end Rows
end Go.Proofs.Ytgmodahpcpepjaa
