/-
  No cell of these rows narrows 'for every input' (looked for: loops, veiled, ifaces, maps, wideKeys, modest, calm, conditions, laid).
  DERIVED. THE GIVEN ROWS OF THIS SEAT. 5 by the template 'for every input the law returns true; each argument reads behind the call as it read before'; 0 by the template 'total and deterministic' (their statements: YtlicgpjcnkabiaaTotals.lean).
  GIVEN WITH THE SEED: the statements are not yours to turn. If you find one false, say at which input.
  Laid BY PROGRAM, IN A SANDBOX (cutbox-rows.mjs): the forced cells as the released guide's own fill.sh prints them over the translation 253656b8531fe1e2… (all of the seat's roots in one cut). By AI agents, Wed Nov 11 2026. No macro, syntax, notation, axiom, sorry.
-/
import Derived.Test.YtlicgpjcnkabiaaChecked
import GoSem.Claim
import GoSem.ClaimJoined
import GoSem.ClaimMapViews
import Derived.JoinedTies
import Derived.KernelRfl
namespace Go.Proofs.Ytlicgpjcnkabiaa
/- THE CELL 'sum', in the pinned program and in every row, IS THE sha256 OF THE DUMP (.gsa) THAT YtlicgpjcnkabiaaProg.lean LOADS. Nothing in Lean hashes anything: it is a label: what it is worth is what the hold of that sum in a sandbox is worth. -/
noncomputable def Try.pinned : Pinned := { name := "ytlicgpjcnkabiaa", sum := "253656b8531fe1e20558acf6fdae9b3e651d52491e5ef976b4a73d8a8f2a3009", checked := Try.checked }
namespace Rows
def none {H : Type} : Left H := { results := [], args := [] }

/-- 'orchlaw4.FixedNegs': WHATEVER THE INPUT: true; the input reads as it did. -/
def fixedNegsSpec : ChangeSpec := { name := "fixedNegs", fn := fun _ => fun
  | [d1, d2, d3] => { results := [.lit (.bool true)], args := [d1, d2, d3] }
  | _ => none }
def fixedNegsRow : OpenClaim := { program := "ytlicgpjcnkabiaa", sum := "253656b8531fe1e20558acf6fdae9b3e651d52491e5ef976b4a73d8a8f2a3009", func := "orchardry/orchlaw4.FixedNegs", spec := "fixedNegs", recurses := true, apart := false }
def FixedNegsSaid : Prop := fixedNegsRow.holds Try.pinned (OpenSpec.ofChange fixedNegsSpec)

/-- ITS FALSE NEIGHBOUR: 'it returns false'. Refute it at one input. -/
def fixedNegsWrong : ChangeSpec := { name := "fixedNegs", fn := fun _ => fun
  | [d1, d2, d3] => { results := [.lit (.bool false)], args := [d1, d2, d3] }
  | _ => none }
def FixedNegsWrongFalsely : Prop := fixedNegsRow.holds Try.pinned (OpenSpec.ofChange fixedNegsWrong)

/-- 'orchlaw1.FixedAdds': WHATEVER THE INPUT: true; the input reads as it did. -/
def fixedAddsSpec : ChangeSpec := { name := "fixedAdds", fn := fun _ => fun
  | [d1, d2, d3] => { results := [.lit (.bool true)], args := [d1, d2, d3] }
  | _ => none }
def fixedAddsRow : OpenClaim := { program := "ytlicgpjcnkabiaa", sum := "253656b8531fe1e20558acf6fdae9b3e651d52491e5ef976b4a73d8a8f2a3009", func := "orchardry/orchlaw1.FixedAdds", spec := "fixedAdds", recurses := true, apart := false }
def FixedAddsSaid : Prop := fixedAddsRow.holds Try.pinned (OpenSpec.ofChange fixedAddsSpec)

/-- ITS FALSE NEIGHBOUR: 'it returns false'. Refute it at one input. -/
def fixedAddsWrong : ChangeSpec := { name := "fixedAdds", fn := fun _ => fun
  | [d1, d2, d3] => { results := [.lit (.bool false)], args := [d1, d2, d3] }
  | _ => none }
def FixedAddsWrongFalsely : Prop := fixedAddsRow.holds Try.pinned (OpenSpec.ofChange fixedAddsWrong)

/-- 'orchlaw1.FixedEnds': WHATEVER THE INPUT: true; the input reads as it did. -/
def fixedEndsSpec : ChangeSpec := { name := "fixedEnds", fn := fun _ => fun
  | [d1, d2, d3] => { results := [.lit (.bool true)], args := [d1, d2, d3] }
  | _ => none }
def fixedEndsRow : OpenClaim := { program := "ytlicgpjcnkabiaa", sum := "253656b8531fe1e20558acf6fdae9b3e651d52491e5ef976b4a73d8a8f2a3009", func := "orchardry/orchlaw1.FixedEnds", spec := "fixedEnds", recurses := true, apart := false }
def FixedEndsSaid : Prop := fixedEndsRow.holds Try.pinned (OpenSpec.ofChange fixedEndsSpec)

/-- ITS FALSE NEIGHBOUR: 'it returns false'. Refute it at one input. -/
def fixedEndsWrong : ChangeSpec := { name := "fixedEnds", fn := fun _ => fun
  | [d1, d2, d3] => { results := [.lit (.bool false)], args := [d1, d2, d3] }
  | _ => none }
def FixedEndsWrongFalsely : Prop := fixedEndsRow.holds Try.pinned (OpenSpec.ofChange fixedEndsWrong)

/-- 'orchlaw4.CutFiner': WHATEVER THE INPUT: true; the input reads as it did. -/
def cutFinerSpec : ChangeSpec := { name := "cutFiner", fn := fun _ => fun
  | [d1, d2, d3, d4] => { results := [.lit (.bool true)], args := [d1, d2, d3, d4] }
  | _ => none }
def cutFinerRow : OpenClaim := { program := "ytlicgpjcnkabiaa", sum := "253656b8531fe1e20558acf6fdae9b3e651d52491e5ef976b4a73d8a8f2a3009", func := "orchardry/orchlaw4.CutFiner", spec := "cutFiner", recurses := true, apart := false }
def CutFinerSaid : Prop := cutFinerRow.holds Try.pinned (OpenSpec.ofChange cutFinerSpec)

/-- ITS FALSE NEIGHBOUR: 'it returns false'. Refute it at one input. -/
def cutFinerWrong : ChangeSpec := { name := "cutFiner", fn := fun _ => fun
  | [d1, d2, d3, d4] => { results := [.lit (.bool false)], args := [d1, d2, d3, d4] }
  | _ => none }
def CutFinerWrongFalsely : Prop := cutFinerRow.holds Try.pinned (OpenSpec.ofChange cutFinerWrong)

/-- 'orchlaw1.CutLaws': WHATEVER THE INPUT: true; the input reads as it did. -/
def cutLawsSpec : ChangeSpec := { name := "cutLaws", fn := fun _ => fun
  | [d1, d2, d3] => { results := [.lit (.bool true)], args := [d1, d2, d3] }
  | _ => none }
def cutLawsRow : OpenClaim := { program := "ytlicgpjcnkabiaa", sum := "253656b8531fe1e20558acf6fdae9b3e651d52491e5ef976b4a73d8a8f2a3009", func := "orchardry/orchlaw1.CutLaws", spec := "cutLaws", unfollowed := true, recurses := true, apart := false }
def CutLawsSaid : Prop := cutLawsRow.holds Try.pinned (OpenSpec.ofChange cutLawsSpec)

/-- ITS FALSE NEIGHBOUR: 'it returns false'. Refute it at one input. -/
def cutLawsWrong : ChangeSpec := { name := "cutLaws", fn := fun _ => fun
  | [d1, d2, d3] => { results := [.lit (.bool false)], args := [d1, d2, d3] }
  | _ => none }
def CutLawsWrongFalsely : Prop := cutLawsRow.holds Try.pinned (OpenSpec.ofChange cutLawsWrong)

/- THE SECOND FORM. 'bulk': how many values and letters a reading holds, each counted each time it is reached (what is shared counts as often as it is met; a slice's spare places count too). A statement '..UptoSaid' is the law's where the arguments, and the package variables that the reading takes, are together of bulk at most 1048576: NARROWER than '..Said'. Prove '..Said' where nothing that the law and all that it calls make is longer than what came in: it says more and counts as full. Else prove '..UptoSaid'. A law counts once. -/
mutual
def uptoBulk {H : Type} : DataW H → Nat
  | .lit (.string bytes) => bytes.length + 1
  | .lit _ => 1
  | .nil => 1
  | .ptr d => uptoBulk d + 1
  | .slice elems spare => uptoBulkAll elems + uptoBulkAll spare + 1
  | .agg parts => uptoBulkAll parts + 1
  | .iface _ d => uptoBulk d + 1
  | .map entries => uptoBulkEntries entries + 1
  | .held _ => 1
def uptoBulkAll {H : Type} : List (DataW H) → Nat
  | [] => 0
  | d :: r => uptoBulk d + uptoBulkAll r
def uptoBulkEntries {H : Type} : List (Lit × DataW H) → Nat
  | [] => 0
  | x :: r => uptoBulkEntry x + uptoBulkEntries r
def uptoBulkEntry {H : Type} : Lit × DataW H → Nat
  | (.string bytes, d) => bytes.length + uptoBulk d + 1
  | (_, d) => uptoBulk d + 1
 end
def uptoSmall : (H : Type) → List (DataW H) → Bool := fun _ ds => decide (uptoBulkAll ds ≤ 1048576)
def OpenSpec.upto (s : _root_.Go.ChangeSpec) : _root_.Go.OpenSpec := { _root_.Go.OpenSpec.ofChange s with cond := some uptoSmall }

/-- 'orchlaw4.FixedNegs', WHERE WHAT IT READS IS OF BULK AT MOST 1048576: true; the input reads as it did. -/
def fixedNegsUptoRow : OpenClaim := { program := "ytlicgpjcnkabiaa", sum := "253656b8531fe1e20558acf6fdae9b3e651d52491e5ef976b4a73d8a8f2a3009", func := "orchardry/orchlaw4.FixedNegs", spec := "fixedNegs", recurses := true, apart := false, narrowed := true }
def FixedNegsUptoSaid : Prop := fixedNegsUptoRow.holds Try.pinned (OpenSpec.upto fixedNegsSpec)

/-- 'orchlaw1.FixedAdds', WHERE WHAT IT READS IS OF BULK AT MOST 1048576: true; the input reads as it did. -/
def fixedAddsUptoRow : OpenClaim := { program := "ytlicgpjcnkabiaa", sum := "253656b8531fe1e20558acf6fdae9b3e651d52491e5ef976b4a73d8a8f2a3009", func := "orchardry/orchlaw1.FixedAdds", spec := "fixedAdds", recurses := true, apart := false, narrowed := true }
def FixedAddsUptoSaid : Prop := fixedAddsUptoRow.holds Try.pinned (OpenSpec.upto fixedAddsSpec)

/-- 'orchlaw1.FixedEnds', WHERE WHAT IT READS IS OF BULK AT MOST 1048576: true; the input reads as it did. -/
def fixedEndsUptoRow : OpenClaim := { program := "ytlicgpjcnkabiaa", sum := "253656b8531fe1e20558acf6fdae9b3e651d52491e5ef976b4a73d8a8f2a3009", func := "orchardry/orchlaw1.FixedEnds", spec := "fixedEnds", recurses := true, apart := false, narrowed := true }
def FixedEndsUptoSaid : Prop := fixedEndsUptoRow.holds Try.pinned (OpenSpec.upto fixedEndsSpec)

/-- 'orchlaw4.CutFiner', WHERE WHAT IT READS IS OF BULK AT MOST 1048576: true; the input reads as it did. -/
def cutFinerUptoRow : OpenClaim := { program := "ytlicgpjcnkabiaa", sum := "253656b8531fe1e20558acf6fdae9b3e651d52491e5ef976b4a73d8a8f2a3009", func := "orchardry/orchlaw4.CutFiner", spec := "cutFiner", recurses := true, apart := false, narrowed := true }
def CutFinerUptoSaid : Prop := cutFinerUptoRow.holds Try.pinned (OpenSpec.upto cutFinerSpec)

/-- 'orchlaw1.CutLaws', WHERE WHAT IT READS IS OF BULK AT MOST 1048576: true; the input reads as it did. -/
def cutLawsUptoRow : OpenClaim := { program := "ytlicgpjcnkabiaa", sum := "253656b8531fe1e20558acf6fdae9b3e651d52491e5ef976b4a73d8a8f2a3009", func := "orchardry/orchlaw1.CutLaws", spec := "cutLaws", unfollowed := true, recurses := true, apart := false, narrowed := true }
def CutLawsUptoSaid : Prop := cutLawsUptoRow.holds Try.pinned (OpenSpec.upto cutLawsSpec)

end Rows
end Go.Proofs.Ytlicgpjcnkabiaa
