/-
  No cell of these rows narrows 'for every input' (looked for: loops, veiled, ifaces, maps, wideKeys, modest, calm, conditions, laid).
  DERIVED. THE GIVEN ROWS OF THIS SEAT. 6 by the template 'for every input the law returns true; each argument reads behind the call as it read before'; 0 by the template 'total and deterministic' (their statements: YtddiikeepncakaaGreatTotals.lean).
  GIVEN WITH THE SEED: the statements are not yours to turn. If you find one false, say at which input.
  Laid BY PROGRAM, IN A SANDBOX (cutbox-rows.mjs): the forced cells as the released guide's own fill.sh prints them over the translation 329416734d72c490… (all of the seat's roots in one cut). By AI agents, Wed Nov 11 2026. No macro, syntax, notation, axiom, sorry.
-/
import Derived.Test.YtddiikeepncakaaGreatChecked
import GoSem.Claim
import GoSem.ClaimJoined
import GoSem.ClaimMapViews
import Derived.JoinedTies
import Derived.KernelRfl
namespace Go.Proofs.YtddiikeepncakaaGreat
/- THE CELL 'sum', in the pinned program and in every row, IS THE sha256 OF THE DUMP (.gsa) THAT YtddiikeepncakaaGreatProg.lean LOADS. Nothing in Lean hashes anything: it is a label: what it is worth is what the hold of that sum in a sandbox is worth. -/
noncomputable def Tryz.pinned : Pinned := { name := "ytddiikeepncakaagreat", sum := "329416734d72c4905844bfa9ddad50f7b8fc18c77afb36666cb6a500fb602f1a", checked := Tryz.checked }
namespace Rows
def none {H : Type} : Left H := { results := [], args := [] }

/-- 'dunnagelaw06.InodeNeeds': WHATEVER THE INPUT: true; the input reads as it did. -/
def inodeNeedsSpec : ChangeSpec := { name := "inodeNeeds", fn := fun _ => fun
  | [d] => { results := [.lit (.bool true)], args := [d] }
  | _ => none }
def inodeNeedsRow : OpenClaim := { program := "ytddiikeepncakaagreat", sum := "329416734d72c4905844bfa9ddad50f7b8fc18c77afb36666cb6a500fb602f1a", func := "dunnage/dunnagelaw06.InodeNeeds", spec := "inodeNeeds", unfollowed := true, recurses := true, apart := false }
def InodeNeedsSaid : Prop := inodeNeedsRow.holds Tryz.pinned (OpenSpec.ofChange inodeNeedsSpec)

/-- ITS FALSE NEIGHBOUR: 'it returns false'. Refute it at one input. -/
def inodeNeedsWrong : ChangeSpec := { name := "inodeNeeds", fn := fun _ => fun
  | [d] => { results := [.lit (.bool false)], args := [d] }
  | _ => none }
def InodeNeedsWrongFalsely : Prop := inodeNeedsRow.holds Tryz.pinned (OpenSpec.ofChange inodeNeedsWrong)

/-- 'dunnagelaw06.InodePieces': WHATEVER THE INPUT: true; the input reads as it did. -/
def inodePiecesSpec : ChangeSpec := { name := "inodePieces", fn := fun _ => fun
  | [d1, d2, d3] => { results := [.lit (.bool true)], args := [d1, d2, d3] }
  | _ => none }
def inodePiecesRow : OpenClaim := { program := "ytddiikeepncakaagreat", sum := "329416734d72c4905844bfa9ddad50f7b8fc18c77afb36666cb6a500fb602f1a", func := "dunnage/dunnagelaw06.InodePieces", spec := "inodePieces", unfollowed := true, recurses := true, apart := false }
def InodePiecesSaid : Prop := inodePiecesRow.holds Tryz.pinned (OpenSpec.ofChange inodePiecesSpec)

/-- ITS FALSE NEIGHBOUR: 'it returns false'. Refute it at one input. -/
def inodePiecesWrong : ChangeSpec := { name := "inodePieces", fn := fun _ => fun
  | [d1, d2, d3] => { results := [.lit (.bool false)], args := [d1, d2, d3] }
  | _ => none }
def InodePiecesWrongFalsely : Prop := inodePiecesRow.holds Tryz.pinned (OpenSpec.ofChange inodePiecesWrong)

/-- 'dunnagelaw06.InodeModes': WHATEVER THE INPUT: true; the input reads as it did. -/
def inodeModesSpec : ChangeSpec := { name := "inodeModes", fn := fun _ => fun
  | [d] => { results := [.lit (.bool true)], args := [d] }
  | _ => none }
def inodeModesRow : OpenClaim := { program := "ytddiikeepncakaagreat", sum := "329416734d72c4905844bfa9ddad50f7b8fc18c77afb36666cb6a500fb602f1a", func := "dunnage/dunnagelaw06.InodeModes", spec := "inodeModes", unfollowed := true, recurses := true, apart := false }
def InodeModesSaid : Prop := inodeModesRow.holds Tryz.pinned (OpenSpec.ofChange inodeModesSpec)

/-- ITS FALSE NEIGHBOUR: 'it returns false'. Refute it at one input. -/
def inodeModesWrong : ChangeSpec := { name := "inodeModes", fn := fun _ => fun
  | [d] => { results := [.lit (.bool false)], args := [d] }
  | _ => none }
def InodeModesWrongFalsely : Prop := inodeModesRow.holds Tryz.pinned (OpenSpec.ofChange inodeModesWrong)

/-- 'dunnagelaw06.InodeCuts': WHATEVER THE INPUT: true; the input reads as it did. -/
def inodeCutsSpec : ChangeSpec := { name := "inodeCuts", fn := fun _ => fun
  | [d1, d2, d3] => { results := [.lit (.bool true)], args := [d1, d2, d3] }
  | _ => none }
def inodeCutsRow : OpenClaim := { program := "ytddiikeepncakaagreat", sum := "329416734d72c4905844bfa9ddad50f7b8fc18c77afb36666cb6a500fb602f1a", func := "dunnage/dunnagelaw06.InodeCuts", spec := "inodeCuts", unfollowed := true, recurses := true, apart := false }
def InodeCutsSaid : Prop := inodeCutsRow.holds Tryz.pinned (OpenSpec.ofChange inodeCutsSpec)

/-- ITS FALSE NEIGHBOUR: 'it returns false'. Refute it at one input. -/
def inodeCutsWrong : ChangeSpec := { name := "inodeCuts", fn := fun _ => fun
  | [d1, d2, d3] => { results := [.lit (.bool false)], args := [d1, d2, d3] }
  | _ => none }
def InodeCutsWrongFalsely : Prop := inodeCutsRow.holds Tryz.pinned (OpenSpec.ofChange inodeCutsWrong)

/-- 'dunnagelaw06.InodeBack': WHATEVER THE INPUT: true; the input reads as it did. -/
def inodeBackSpec : ChangeSpec := { name := "inodeBack", fn := fun _ => fun
  | [d1, d2, d3] => { results := [.lit (.bool true)], args := [d1, d2, d3] }
  | _ => none }
def inodeBackRow : OpenClaim := { program := "ytddiikeepncakaagreat", sum := "329416734d72c4905844bfa9ddad50f7b8fc18c77afb36666cb6a500fb602f1a", func := "dunnage/dunnagelaw06.InodeBack", spec := "inodeBack", unfollowed := true, recurses := true, apart := false }
def InodeBackSaid : Prop := inodeBackRow.holds Tryz.pinned (OpenSpec.ofChange inodeBackSpec)

/-- ITS FALSE NEIGHBOUR: 'it returns false'. Refute it at one input. -/
def inodeBackWrong : ChangeSpec := { name := "inodeBack", fn := fun _ => fun
  | [d1, d2, d3] => { results := [.lit (.bool false)], args := [d1, d2, d3] }
  | _ => none }
def InodeBackWrongFalsely : Prop := inodeBackRow.holds Tryz.pinned (OpenSpec.ofChange inodeBackWrong)

/-- 'dunnagelaw06.InodeNone': WHATEVER THE INPUT: true; the input reads as it did. -/
def inodeNoneSpec : ChangeSpec := { name := "inodeNone", fn := fun _ => fun
  | [d] => { results := [.lit (.bool true)], args := [d] }
  | _ => none }
def inodeNoneRow : OpenClaim := { program := "ytddiikeepncakaagreat", sum := "329416734d72c4905844bfa9ddad50f7b8fc18c77afb36666cb6a500fb602f1a", func := "dunnage/dunnagelaw06.InodeNone", spec := "inodeNone", unfollowed := true, recurses := true, apart := false }
def InodeNoneSaid : Prop := inodeNoneRow.holds Tryz.pinned (OpenSpec.ofChange inodeNoneSpec)

/-- ITS FALSE NEIGHBOUR: 'it returns false'. Refute it at one input. -/
def inodeNoneWrong : ChangeSpec := { name := "inodeNone", fn := fun _ => fun
  | [d] => { results := [.lit (.bool false)], args := [d] }
  | _ => none }
def InodeNoneWrongFalsely : Prop := inodeNoneRow.holds Tryz.pinned (OpenSpec.ofChange inodeNoneWrong)

/- THE SECOND FORM. 'bulk': how many values and letters a reading holds, each counted each time it is reached (what is shared counts as often as it is met; a slice's spare places count too). A statement '..UptoSaid' is the law's where the arguments, and the package variables that the reading takes, are together of bulk at most 1048576: NARROWER than '..Said'. Prove '..Said' where nothing that the law and all that it calls make is longer than what came in: it says more and counts as full. Else prove '..UptoSaid'. A law counts once. -/
mutual
def uptoBulk {H : Type} : DataW H → Nat
  | .lit (.string bytes) => bytes.length + 1
  | .lit _ => 1
  | .nil => 1
  | .ptr d => uptoBulk d + 1
  | .slice elems spare => uptoBulkAll elems + uptoBulkAll spare + 1
  | .agg parts => uptoBulkAll parts + 1
  | .iface _ d => uptoBulk d + 1
  | .map entries => uptoBulkEntries entries + 1
  | .held _ => 1
def uptoBulkAll {H : Type} : List (DataW H) → Nat
  | [] => 0
  | d :: r => uptoBulk d + uptoBulkAll r
def uptoBulkEntries {H : Type} : List (Lit × DataW H) → Nat
  | [] => 0
  | x :: r => uptoBulkEntry x + uptoBulkEntries r
def uptoBulkEntry {H : Type} : Lit × DataW H → Nat
  | (.string bytes, d) => bytes.length + uptoBulk d + 1
  | (_, d) => uptoBulk d + 1
 end
def uptoSmall : (H : Type) → List (DataW H) → Bool := fun _ ds => decide (uptoBulkAll ds ≤ 1048576)
def OpenSpec.upto (s : _root_.Go.ChangeSpec) : _root_.Go.OpenSpec := { _root_.Go.OpenSpec.ofChange s with cond := some uptoSmall }

/-- 'dunnagelaw06.InodeNeeds', WHERE WHAT IT READS IS OF BULK AT MOST 1048576: true; the input reads as it did. -/
def inodeNeedsUptoRow : OpenClaim := { program := "ytddiikeepncakaagreat", sum := "329416734d72c4905844bfa9ddad50f7b8fc18c77afb36666cb6a500fb602f1a", func := "dunnage/dunnagelaw06.InodeNeeds", spec := "inodeNeeds", unfollowed := true, recurses := true, apart := false, narrowed := true }
def InodeNeedsUptoSaid : Prop := inodeNeedsUptoRow.holds Tryz.pinned (OpenSpec.upto inodeNeedsSpec)

/-- 'dunnagelaw06.InodePieces', WHERE WHAT IT READS IS OF BULK AT MOST 1048576: true; the input reads as it did. -/
def inodePiecesUptoRow : OpenClaim := { program := "ytddiikeepncakaagreat", sum := "329416734d72c4905844bfa9ddad50f7b8fc18c77afb36666cb6a500fb602f1a", func := "dunnage/dunnagelaw06.InodePieces", spec := "inodePieces", unfollowed := true, recurses := true, apart := false, narrowed := true }
def InodePiecesUptoSaid : Prop := inodePiecesUptoRow.holds Tryz.pinned (OpenSpec.upto inodePiecesSpec)

/-- 'dunnagelaw06.InodeModes', WHERE WHAT IT READS IS OF BULK AT MOST 1048576: true; the input reads as it did. -/
def inodeModesUptoRow : OpenClaim := { program := "ytddiikeepncakaagreat", sum := "329416734d72c4905844bfa9ddad50f7b8fc18c77afb36666cb6a500fb602f1a", func := "dunnage/dunnagelaw06.InodeModes", spec := "inodeModes", unfollowed := true, recurses := true, apart := false, narrowed := true }
def InodeModesUptoSaid : Prop := inodeModesUptoRow.holds Tryz.pinned (OpenSpec.upto inodeModesSpec)

/-- 'dunnagelaw06.InodeCuts', WHERE WHAT IT READS IS OF BULK AT MOST 1048576: true; the input reads as it did. -/
def inodeCutsUptoRow : OpenClaim := { program := "ytddiikeepncakaagreat", sum := "329416734d72c4905844bfa9ddad50f7b8fc18c77afb36666cb6a500fb602f1a", func := "dunnage/dunnagelaw06.InodeCuts", spec := "inodeCuts", unfollowed := true, recurses := true, apart := false, narrowed := true }
def InodeCutsUptoSaid : Prop := inodeCutsUptoRow.holds Tryz.pinned (OpenSpec.upto inodeCutsSpec)

/-- 'dunnagelaw06.InodeBack', WHERE WHAT IT READS IS OF BULK AT MOST 1048576: true; the input reads as it did. -/
def inodeBackUptoRow : OpenClaim := { program := "ytddiikeepncakaagreat", sum := "329416734d72c4905844bfa9ddad50f7b8fc18c77afb36666cb6a500fb602f1a", func := "dunnage/dunnagelaw06.InodeBack", spec := "inodeBack", unfollowed := true, recurses := true, apart := false, narrowed := true }
def InodeBackUptoSaid : Prop := inodeBackUptoRow.holds Tryz.pinned (OpenSpec.upto inodeBackSpec)

/-- 'dunnagelaw06.InodeNone', WHERE WHAT IT READS IS OF BULK AT MOST 1048576: true; the input reads as it did. -/
def inodeNoneUptoRow : OpenClaim := { program := "ytddiikeepncakaagreat", sum := "329416734d72c4905844bfa9ddad50f7b8fc18c77afb36666cb6a500fb602f1a", func := "dunnage/dunnagelaw06.InodeNone", spec := "inodeNone", unfollowed := true, recurses := true, apart := false, narrowed := true }
def InodeNoneUptoSaid : Prop := inodeNoneUptoRow.holds Tryz.pinned (OpenSpec.upto inodeNoneSpec)

end Rows
end Go.Proofs.YtddiikeepncakaaGreat
