/-
  No cell of these rows narrows 'for every input' (looked for: loops, veiled, ifaces, maps, wideKeys, modest, calm, conditions, laid).
  DERIVED. THE GIVEN ROWS OF THIS SEAT. 10 by the template 'for every input the law returns true; each argument reads behind the call as it read before'; 0 by the template 'total and deterministic' (their statements: YtliacpdbeghmlaaTotals.lean).
  GIVEN WITH THE SEED: the statements are not yours to turn. If you find one false, say at which input.
  Laid BY PROGRAM, IN A SANDBOX (cutbox-rows.mjs): the forced cells as the released guide's own fill.sh prints them over the translation ccfb63efcdc5c87b… (all of the seat's roots in one cut). By AI agents, Wed Nov 11 2026. No macro, syntax, notation, axiom, sorry.
-/
import Derived.Test.YtliacpdbeghmlaaChecked
import GoSem.Claim
import GoSem.ClaimJoined
import GoSem.ClaimMapViews
import Derived.JoinedTies
import Derived.KernelRfl
namespace Go.Proofs.Ytliacpdbeghmlaa
/- THE CELL 'sum', in the pinned program and in every row, IS THE sha256 OF THE DUMP (.gsa) THAT YtliacpdbeghmlaaProg.lean LOADS. Nothing in Lean hashes anything: it is a label: what it is worth is what the hold of that sum in a sandbox is worth. -/
noncomputable def Try.pinned : Pinned := { name := "ytliacpdbeghmlaa", sum := "ccfb63efcdc5c87b8214a9733de6663b9640da5a204b425f239cad0c747dba0a", checked := Try.checked }
namespace Rows
def none {H : Type} : Left H := { results := [], args := [] }

/-- 'orchlaw1.Names': WHATEVER THE INPUT: true; the input reads as it did. -/
def namesSpec : ChangeSpec := { name := "names", fn := fun _ => fun
  | [] => { results := [.lit (.bool true)], args := [] }
  | _ => none }
def namesRow : OpenClaim := { program := "ytliacpdbeghmlaa", sum := "ccfb63efcdc5c87b8214a9733de6663b9640da5a204b425f239cad0c747dba0a", func := "orchardry/orchlaw1.Names", spec := "names", apart := false }
def NamesSaid : Prop := namesRow.holds Try.pinned (OpenSpec.ofChange namesSpec)

/-- ITS FALSE NEIGHBOUR: 'it returns false'. Refute it at one input. -/
def namesWrong : ChangeSpec := { name := "names", fn := fun _ => fun
  | [] => { results := [.lit (.bool false)], args := [] }
  | _ => none }
def NamesWrongFalsely : Prop := namesRow.holds Try.pinned (OpenSpec.ofChange namesWrong)

/-- 'orchlaw4.CodeRow': WHATEVER THE INPUT: true; the input reads as it did. -/
def codeRowSpec : ChangeSpec := { name := "codeRow", fn := fun _ => fun
  | [d] => { results := [.lit (.bool true)], args := [d] }
  | _ => none }
def codeRowRow : OpenClaim := { program := "ytliacpdbeghmlaa", sum := "ccfb63efcdc5c87b8214a9733de6663b9640da5a204b425f239cad0c747dba0a", func := "orchardry/orchlaw4.CodeRow", spec := "codeRow", apart := false }
def CodeRowSaid : Prop := codeRowRow.holds Try.pinned (OpenSpec.ofChange codeRowSpec)

/-- ITS FALSE NEIGHBOUR: 'it returns false'. Refute it at one input. -/
def codeRowWrong : ChangeSpec := { name := "codeRow", fn := fun _ => fun
  | [d] => { results := [.lit (.bool false)], args := [d] }
  | _ => none }
def CodeRowWrongFalsely : Prop := codeRowRow.holds Try.pinned (OpenSpec.ofChange codeRowWrong)

/-- 'orchlaw4.ChunkSizes': WHATEVER THE INPUT: true; the input reads as it did. -/
def chunkSizesSpec : ChangeSpec := { name := "chunkSizes", fn := fun _ => fun
  | [d1, d2] => { results := [.lit (.bool true)], args := [d1, d2] }
  | _ => none }
def chunkSizesRow : OpenClaim := { program := "ytliacpdbeghmlaa", sum := "ccfb63efcdc5c87b8214a9733de6663b9640da5a204b425f239cad0c747dba0a", func := "orchardry/orchlaw4.ChunkSizes", spec := "chunkSizes", unfollowed := true, recurses := true, apart := false }
def ChunkSizesSaid : Prop := chunkSizesRow.holds Try.pinned (OpenSpec.ofChange chunkSizesSpec)

/-- ITS FALSE NEIGHBOUR: 'it returns false'. Refute it at one input. -/
def chunkSizesWrong : ChangeSpec := { name := "chunkSizes", fn := fun _ => fun
  | [d1, d2] => { results := [.lit (.bool false)], args := [d1, d2] }
  | _ => none }
def ChunkSizesWrongFalsely : Prop := chunkSizesRow.holds Try.pinned (OpenSpec.ofChange chunkSizesWrong)

/-- 'orchlaw4.RowFits': WHATEVER THE INPUT: true; the input reads as it did. -/
def rowFitsSpec : ChangeSpec := { name := "rowFits", fn := fun _ => fun
  | [d1, d2, d3] => { results := [.lit (.bool true)], args := [d1, d2, d3] }
  | _ => none }
def rowFitsRow : OpenClaim := { program := "ytliacpdbeghmlaa", sum := "ccfb63efcdc5c87b8214a9733de6663b9640da5a204b425f239cad0c747dba0a", func := "orchardry/orchlaw4.RowFits", spec := "rowFits", apart := false }
def RowFitsSaid : Prop := rowFitsRow.holds Try.pinned (OpenSpec.ofChange rowFitsSpec)

/-- ITS FALSE NEIGHBOUR: 'it returns false'. Refute it at one input. -/
def rowFitsWrong : ChangeSpec := { name := "rowFits", fn := fun _ => fun
  | [d1, d2, d3] => { results := [.lit (.bool false)], args := [d1, d2, d3] }
  | _ => none }
def RowFitsWrongFalsely : Prop := rowFitsRow.holds Try.pinned (OpenSpec.ofChange rowFitsWrong)

/-- 'orchlaw4.TreeDeep': WHATEVER THE INPUT: true; the input reads as it did. -/
def treeDeepSpec : ChangeSpec := { name := "treeDeep", fn := fun _ => fun
  | [d1, d2] => { results := [.lit (.bool true)], args := [d1, d2] }
  | _ => none }
def treeDeepRow : OpenClaim := { program := "ytliacpdbeghmlaa", sum := "ccfb63efcdc5c87b8214a9733de6663b9640da5a204b425f239cad0c747dba0a", func := "orchardry/orchlaw4.TreeDeep", spec := "treeDeep", unfollowed := true, recurses := true, apart := false }
def TreeDeepSaid : Prop := treeDeepRow.holds Try.pinned (OpenSpec.ofChange treeDeepSpec)

/-- ITS FALSE NEIGHBOUR: 'it returns false'. Refute it at one input. -/
def treeDeepWrong : ChangeSpec := { name := "treeDeep", fn := fun _ => fun
  | [d1, d2] => { results := [.lit (.bool false)], args := [d1, d2] }
  | _ => none }
def TreeDeepWrongFalsely : Prop := treeDeepRow.holds Try.pinned (OpenSpec.ofChange treeDeepWrong)

/-- 'orchlaw1.TreeHalves': WHATEVER THE INPUT: true; the input reads as it did. -/
def treeHalvesSpec : ChangeSpec := { name := "treeHalves", fn := fun _ => fun
  | [d1, d2, d3, d4] => { results := [.lit (.bool true)], args := [d1, d2, d3, d4] }
  | _ => none }
def treeHalvesRow : OpenClaim := { program := "ytliacpdbeghmlaa", sum := "ccfb63efcdc5c87b8214a9733de6663b9640da5a204b425f239cad0c747dba0a", func := "orchardry/orchlaw1.TreeHalves", spec := "treeHalves", unfollowed := true, recurses := true, apart := false }
def TreeHalvesSaid : Prop := treeHalvesRow.holds Try.pinned (OpenSpec.ofChange treeHalvesSpec)

/-- ITS FALSE NEIGHBOUR: 'it returns false'. Refute it at one input. -/
def treeHalvesWrong : ChangeSpec := { name := "treeHalves", fn := fun _ => fun
  | [d1, d2, d3, d4] => { results := [.lit (.bool false)], args := [d1, d2, d3, d4] }
  | _ => none }
def TreeHalvesWrongFalsely : Prop := treeHalvesRow.holds Try.pinned (OpenSpec.ofChange treeHalvesWrong)

/-- 'orchlaw4.PruneOne': WHATEVER THE INPUT: true; the input reads as it did. -/
def pruneOneSpec : ChangeSpec := { name := "pruneOne", fn := fun _ => fun
  | [d1, d2, d3] => { results := [.lit (.bool true)], args := [d1, d2, d3] }
  | _ => none }
def pruneOneRow : OpenClaim := { program := "ytliacpdbeghmlaa", sum := "ccfb63efcdc5c87b8214a9733de6663b9640da5a204b425f239cad0c747dba0a", func := "orchardry/orchlaw4.PruneOne", spec := "pruneOne", unfollowed := true, recurses := true, apart := false }
def PruneOneSaid : Prop := pruneOneRow.holds Try.pinned (OpenSpec.ofChange pruneOneSpec)

/-- ITS FALSE NEIGHBOUR: 'it returns false'. Refute it at one input. -/
def pruneOneWrong : ChangeSpec := { name := "pruneOne", fn := fun _ => fun
  | [d1, d2, d3] => { results := [.lit (.bool false)], args := [d1, d2, d3] }
  | _ => none }
def PruneOneWrongFalsely : Prop := pruneOneRow.holds Try.pinned (OpenSpec.ofChange pruneOneWrong)

/-- 'orchlaw4.DifferTurned': WHATEVER THE INPUT: true; the input reads as it did. -/
def differTurnedSpec : ChangeSpec := { name := "differTurned", fn := fun _ => fun
  | [d1, d2, d3] => { results := [.lit (.bool true)], args := [d1, d2, d3] }
  | _ => none }
def differTurnedRow : OpenClaim := { program := "ytliacpdbeghmlaa", sum := "ccfb63efcdc5c87b8214a9733de6663b9640da5a204b425f239cad0c747dba0a", func := "orchardry/orchlaw4.DifferTurned", spec := "differTurned", unfollowed := true, recurses := true, apart := false }
def DifferTurnedSaid : Prop := differTurnedRow.holds Try.pinned (OpenSpec.ofChange differTurnedSpec)

/-- ITS FALSE NEIGHBOUR: 'it returns false'. Refute it at one input. -/
def differTurnedWrong : ChangeSpec := { name := "differTurned", fn := fun _ => fun
  | [d1, d2, d3] => { results := [.lit (.bool false)], args := [d1, d2, d3] }
  | _ => none }
def DifferTurnedWrongFalsely : Prop := differTurnedRow.holds Try.pinned (OpenSpec.ofChange differTurnedWrong)

/-- 'orchlaw4.GroveTwice': WHATEVER THE INPUT: true; the input reads as it did. -/
def groveTwiceSpec : ChangeSpec := { name := "groveTwice", fn := fun _ => fun
  | [d1, d2] => { results := [.lit (.bool true)], args := [d1, d2] }
  | _ => none }
def groveTwiceRow : OpenClaim := { program := "ytliacpdbeghmlaa", sum := "ccfb63efcdc5c87b8214a9733de6663b9640da5a204b425f239cad0c747dba0a", func := "orchardry/orchlaw4.GroveTwice", spec := "groveTwice", unfollowed := true, recurses := true, apart := false }
def GroveTwiceSaid : Prop := groveTwiceRow.holds Try.pinned (OpenSpec.ofChange groveTwiceSpec)

/-- ITS FALSE NEIGHBOUR: 'it returns false'. Refute it at one input. -/
def groveTwiceWrong : ChangeSpec := { name := "groveTwice", fn := fun _ => fun
  | [d1, d2] => { results := [.lit (.bool false)], args := [d1, d2] }
  | _ => none }
def GroveTwiceWrongFalsely : Prop := groveTwiceRow.holds Try.pinned (OpenSpec.ofChange groveTwiceWrong)

/-- 'orchlaw1.GroveBounds': WHATEVER THE INPUT: true; the input reads as it did. -/
def groveBoundsSpec : ChangeSpec := { name := "groveBounds", fn := fun _ => fun
  | [d1, d2, d3] => { results := [.lit (.bool true)], args := [d1, d2, d3] }
  | _ => none }
def groveBoundsRow : OpenClaim := { program := "ytliacpdbeghmlaa", sum := "ccfb63efcdc5c87b8214a9733de6663b9640da5a204b425f239cad0c747dba0a", func := "orchardry/orchlaw1.GroveBounds", spec := "groveBounds", unfollowed := true, recurses := true, apart := false }
def GroveBoundsSaid : Prop := groveBoundsRow.holds Try.pinned (OpenSpec.ofChange groveBoundsSpec)

/-- ITS FALSE NEIGHBOUR: 'it returns false'. Refute it at one input. -/
def groveBoundsWrong : ChangeSpec := { name := "groveBounds", fn := fun _ => fun
  | [d1, d2, d3] => { results := [.lit (.bool false)], args := [d1, d2, d3] }
  | _ => none }
def GroveBoundsWrongFalsely : Prop := groveBoundsRow.holds Try.pinned (OpenSpec.ofChange groveBoundsWrong)

/- THE SECOND FORM. 'bulk': how many values and letters a reading holds, each counted each time it is reached (what is shared counts as often as it is met; a slice's spare places count too). A statement '..UptoSaid' is the law's where the arguments, and the package variables that the reading takes, are together of bulk at most 1048576: NARROWER than '..Said'. Prove '..Said' where nothing that the law and all that it calls make is longer than what came in: it says more and counts as full. Else prove '..UptoSaid'. A law counts once. -/
mutual
def uptoBulk {H : Type} : DataW H → Nat
  | .lit (.string bytes) => bytes.length + 1
  | .lit _ => 1
  | .nil => 1
  | .ptr d => uptoBulk d + 1
  | .slice elems spare => uptoBulkAll elems + uptoBulkAll spare + 1
  | .agg parts => uptoBulkAll parts + 1
  | .iface _ d => uptoBulk d + 1
  | .map entries => uptoBulkEntries entries + 1
  | .held _ => 1
def uptoBulkAll {H : Type} : List (DataW H) → Nat
  | [] => 0
  | d :: r => uptoBulk d + uptoBulkAll r
def uptoBulkEntries {H : Type} : List (Lit × DataW H) → Nat
  | [] => 0
  | x :: r => uptoBulkEntry x + uptoBulkEntries r
def uptoBulkEntry {H : Type} : Lit × DataW H → Nat
  | (.string bytes, d) => bytes.length + uptoBulk d + 1
  | (_, d) => uptoBulk d + 1
 end
def uptoSmall : (H : Type) → List (DataW H) → Bool := fun _ ds => decide (uptoBulkAll ds ≤ 1048576)
def OpenSpec.upto (s : _root_.Go.ChangeSpec) : _root_.Go.OpenSpec := { _root_.Go.OpenSpec.ofChange s with cond := some uptoSmall }

/-- 'orchlaw1.Names', WHERE WHAT IT READS IS OF BULK AT MOST 1048576: true; the input reads as it did. -/
def namesUptoRow : OpenClaim := { program := "ytliacpdbeghmlaa", sum := "ccfb63efcdc5c87b8214a9733de6663b9640da5a204b425f239cad0c747dba0a", func := "orchardry/orchlaw1.Names", spec := "names", apart := false, narrowed := true }
def NamesUptoSaid : Prop := namesUptoRow.holds Try.pinned (OpenSpec.upto namesSpec)

/-- 'orchlaw4.CodeRow', WHERE WHAT IT READS IS OF BULK AT MOST 1048576: true; the input reads as it did. -/
def codeRowUptoRow : OpenClaim := { program := "ytliacpdbeghmlaa", sum := "ccfb63efcdc5c87b8214a9733de6663b9640da5a204b425f239cad0c747dba0a", func := "orchardry/orchlaw4.CodeRow", spec := "codeRow", apart := false, narrowed := true }
def CodeRowUptoSaid : Prop := codeRowUptoRow.holds Try.pinned (OpenSpec.upto codeRowSpec)

/-- 'orchlaw4.ChunkSizes', WHERE WHAT IT READS IS OF BULK AT MOST 1048576: true; the input reads as it did. -/
def chunkSizesUptoRow : OpenClaim := { program := "ytliacpdbeghmlaa", sum := "ccfb63efcdc5c87b8214a9733de6663b9640da5a204b425f239cad0c747dba0a", func := "orchardry/orchlaw4.ChunkSizes", spec := "chunkSizes", unfollowed := true, recurses := true, apart := false, narrowed := true }
def ChunkSizesUptoSaid : Prop := chunkSizesUptoRow.holds Try.pinned (OpenSpec.upto chunkSizesSpec)

/-- 'orchlaw4.RowFits', WHERE WHAT IT READS IS OF BULK AT MOST 1048576: true; the input reads as it did. -/
def rowFitsUptoRow : OpenClaim := { program := "ytliacpdbeghmlaa", sum := "ccfb63efcdc5c87b8214a9733de6663b9640da5a204b425f239cad0c747dba0a", func := "orchardry/orchlaw4.RowFits", spec := "rowFits", apart := false, narrowed := true }
def RowFitsUptoSaid : Prop := rowFitsUptoRow.holds Try.pinned (OpenSpec.upto rowFitsSpec)

/-- 'orchlaw4.TreeDeep', WHERE WHAT IT READS IS OF BULK AT MOST 1048576: true; the input reads as it did. -/
def treeDeepUptoRow : OpenClaim := { program := "ytliacpdbeghmlaa", sum := "ccfb63efcdc5c87b8214a9733de6663b9640da5a204b425f239cad0c747dba0a", func := "orchardry/orchlaw4.TreeDeep", spec := "treeDeep", unfollowed := true, recurses := true, apart := false, narrowed := true }
def TreeDeepUptoSaid : Prop := treeDeepUptoRow.holds Try.pinned (OpenSpec.upto treeDeepSpec)

/-- 'orchlaw1.TreeHalves', WHERE WHAT IT READS IS OF BULK AT MOST 1048576: true; the input reads as it did. -/
def treeHalvesUptoRow : OpenClaim := { program := "ytliacpdbeghmlaa", sum := "ccfb63efcdc5c87b8214a9733de6663b9640da5a204b425f239cad0c747dba0a", func := "orchardry/orchlaw1.TreeHalves", spec := "treeHalves", unfollowed := true, recurses := true, apart := false, narrowed := true }
def TreeHalvesUptoSaid : Prop := treeHalvesUptoRow.holds Try.pinned (OpenSpec.upto treeHalvesSpec)

/-- 'orchlaw4.PruneOne', WHERE WHAT IT READS IS OF BULK AT MOST 1048576: true; the input reads as it did. -/
def pruneOneUptoRow : OpenClaim := { program := "ytliacpdbeghmlaa", sum := "ccfb63efcdc5c87b8214a9733de6663b9640da5a204b425f239cad0c747dba0a", func := "orchardry/orchlaw4.PruneOne", spec := "pruneOne", unfollowed := true, recurses := true, apart := false, narrowed := true }
def PruneOneUptoSaid : Prop := pruneOneUptoRow.holds Try.pinned (OpenSpec.upto pruneOneSpec)

/-- 'orchlaw4.DifferTurned', WHERE WHAT IT READS IS OF BULK AT MOST 1048576: true; the input reads as it did. -/
def differTurnedUptoRow : OpenClaim := { program := "ytliacpdbeghmlaa", sum := "ccfb63efcdc5c87b8214a9733de6663b9640da5a204b425f239cad0c747dba0a", func := "orchardry/orchlaw4.DifferTurned", spec := "differTurned", unfollowed := true, recurses := true, apart := false, narrowed := true }
def DifferTurnedUptoSaid : Prop := differTurnedUptoRow.holds Try.pinned (OpenSpec.upto differTurnedSpec)

/-- 'orchlaw4.GroveTwice', WHERE WHAT IT READS IS OF BULK AT MOST 1048576: true; the input reads as it did. -/
def groveTwiceUptoRow : OpenClaim := { program := "ytliacpdbeghmlaa", sum := "ccfb63efcdc5c87b8214a9733de6663b9640da5a204b425f239cad0c747dba0a", func := "orchardry/orchlaw4.GroveTwice", spec := "groveTwice", unfollowed := true, recurses := true, apart := false, narrowed := true }
def GroveTwiceUptoSaid : Prop := groveTwiceUptoRow.holds Try.pinned (OpenSpec.upto groveTwiceSpec)

/-- 'orchlaw1.GroveBounds', WHERE WHAT IT READS IS OF BULK AT MOST 1048576: true; the input reads as it did. -/
def groveBoundsUptoRow : OpenClaim := { program := "ytliacpdbeghmlaa", sum := "ccfb63efcdc5c87b8214a9733de6663b9640da5a204b425f239cad0c747dba0a", func := "orchardry/orchlaw1.GroveBounds", spec := "groveBounds", unfollowed := true, recurses := true, apart := false, narrowed := true }
def GroveBoundsUptoSaid : Prop := groveBoundsUptoRow.holds Try.pinned (OpenSpec.upto groveBoundsSpec)

end Rows
end Go.Proofs.Ytliacpdbeghmlaa
