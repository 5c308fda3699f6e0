/-
  No cell of these rows narrows 'for every input' (looked for: loops, veiled, ifaces, maps, wideKeys, modest, calm, conditions, laid).
  DERIVED. THE GIVEN ROWS OF THIS SEAT. 6 by the template 'for every input the law returns true; each argument reads behind the call as it read before'; 0 by the template 'total and deterministic' (their statements: YtbailhcadjpflaaTotals.lean).
  GIVEN WITH THE SEED: the statements are not yours to turn. If you find one false, say at which input.
  Laid BY PROGRAM, IN A SANDBOX (cutbox-rows.mjs): the forced cells as the released guide's own fill.sh prints them over the translation 1b5ef1c0ade4ee6b… (all of the seat's roots in one cut). By AI agents, Wed Nov 11 2026. No macro, syntax, notation, axiom, sorry.
-/
import Derived.Test.YtbailhcadjpflaaChecked
import GoSem.Claim
import GoSem.ClaimJoined
import GoSem.ClaimMapViews
import Derived.JoinedTies
import Derived.KernelRfl
namespace Go.Proofs.Ytbailhcadjpflaa
/- THE CELL 'sum', in the pinned program and in every row, IS THE sha256 OF THE DUMP (.gsa) THAT YtbailhcadjpflaaProg.lean LOADS. Nothing in Lean hashes anything: it is a label: what it is worth is what the hold of that sum in a sandbox is worth. -/
noncomputable def Try.pinned : Pinned := { name := "ytbailhcadjpflaa", sum := "1b5ef1c0ade4ee6bf7dfd1d0a6abe655733af434cef72010ba6193856e93b91a", checked := Try.checked }
namespace Rows
def none {H : Type} : Left H := { results := [], args := [] }

/-- 'orchlaw4.LimitSteps': WHATEVER THE INPUT: true; the input reads as it did. -/
def limitStepsSpec : ChangeSpec := { name := "limitSteps", fn := fun _ => fun
  | [d1, d2, d3, d4] => { results := [.lit (.bool true)], args := [d1, d2, d3, d4] }
  | _ => none }
def limitStepsRow : OpenClaim := { program := "ytbailhcadjpflaa", sum := "1b5ef1c0ade4ee6bf7dfd1d0a6abe655733af434cef72010ba6193856e93b91a", func := "orchardry/orchlaw4.LimitSteps", spec := "limitSteps", unfollowed := true, recurses := true, apart := false }
def LimitStepsSaid : Prop := limitStepsRow.holds Try.pinned (OpenSpec.ofChange limitStepsSpec)

/-- ITS FALSE NEIGHBOUR: 'it returns false'. Refute it at one input. -/
def limitStepsWrong : ChangeSpec := { name := "limitSteps", fn := fun _ => fun
  | [d1, d2, d3, d4] => { results := [.lit (.bool false)], args := [d1, d2, d3, d4] }
  | _ => none }
def LimitStepsWrongFalsely : Prop := limitStepsRow.holds Try.pinned (OpenSpec.ofChange limitStepsWrong)

/-- 'orchlaw2.LimitHolds': WHATEVER THE INPUT: true; the input reads as it did. -/
def limitHoldsSpec : ChangeSpec := { name := "limitHolds", fn := fun _ => fun
  | [d1, d2, d3, d4] => { results := [.lit (.bool true)], args := [d1, d2, d3, d4] }
  | _ => none }
def limitHoldsRow : OpenClaim := { program := "ytbailhcadjpflaa", sum := "1b5ef1c0ade4ee6bf7dfd1d0a6abe655733af434cef72010ba6193856e93b91a", func := "orchardry/orchlaw2.LimitHolds", spec := "limitHolds", unfollowed := true, recurses := true, apart := false }
def LimitHoldsSaid : Prop := limitHoldsRow.holds Try.pinned (OpenSpec.ofChange limitHoldsSpec)

/-- ITS FALSE NEIGHBOUR: 'it returns false'. Refute it at one input. -/
def limitHoldsWrong : ChangeSpec := { name := "limitHolds", fn := fun _ => fun
  | [d1, d2, d3, d4] => { results := [.lit (.bool false)], args := [d1, d2, d3, d4] }
  | _ => none }
def LimitHoldsWrongFalsely : Prop := limitHoldsRow.holds Try.pinned (OpenSpec.ofChange limitHoldsWrong)

/-- 'orchlaw1.PathRegions': WHATEVER THE INPUT: true; the input reads as it did. -/
def pathRegionsSpec : ChangeSpec := { name := "pathRegions", fn := fun _ => fun
  | [d1, d2] => { results := [.lit (.bool true)], args := [d1, d2] }
  | _ => none }
def pathRegionsRow : OpenClaim := { program := "ytbailhcadjpflaa", sum := "1b5ef1c0ade4ee6bf7dfd1d0a6abe655733af434cef72010ba6193856e93b91a", func := "orchardry/orchlaw1.PathRegions", spec := "pathRegions", unfollowed := true, recurses := true, apart := false }
def PathRegionsSaid : Prop := pathRegionsRow.holds Try.pinned (OpenSpec.ofChange pathRegionsSpec)

/-- ITS FALSE NEIGHBOUR: 'it returns false'. Refute it at one input. -/
def pathRegionsWrong : ChangeSpec := { name := "pathRegions", fn := fun _ => fun
  | [d1, d2] => { results := [.lit (.bool false)], args := [d1, d2] }
  | _ => none }
def PathRegionsWrongFalsely : Prop := pathRegionsRow.holds Try.pinned (OpenSpec.ofChange pathRegionsWrong)

/-- 'orchlaw2.PruneSame': WHATEVER THE INPUT: true; the input reads as it did. -/
def pruneSameSpec : ChangeSpec := { name := "pruneSame", fn := fun _ => fun
  | [d1, d2] => { results := [.lit (.bool true)], args := [d1, d2] }
  | _ => none }
def pruneSameRow : OpenClaim := { program := "ytbailhcadjpflaa", sum := "1b5ef1c0ade4ee6bf7dfd1d0a6abe655733af434cef72010ba6193856e93b91a", func := "orchardry/orchlaw2.PruneSame", spec := "pruneSame", unfollowed := true, recurses := true, apart := false }
def PruneSameSaid : Prop := pruneSameRow.holds Try.pinned (OpenSpec.ofChange pruneSameSpec)

/-- ITS FALSE NEIGHBOUR: 'it returns false'. Refute it at one input. -/
def pruneSameWrong : ChangeSpec := { name := "pruneSame", fn := fun _ => fun
  | [d1, d2] => { results := [.lit (.bool false)], args := [d1, d2] }
  | _ => none }
def PruneSameWrongFalsely : Prop := pruneSameRow.holds Try.pinned (OpenSpec.ofChange pruneSameWrong)

/-- 'orchlaw4.WeighSame': WHATEVER THE INPUT: true; the input reads as it did. -/
def weighSameSpec : ChangeSpec := { name := "weighSame", fn := fun _ => fun
  | [d1, d2, d3] => { results := [.lit (.bool true)], args := [d1, d2, d3] }
  | _ => none }
def weighSameRow : OpenClaim := { program := "ytbailhcadjpflaa", sum := "1b5ef1c0ade4ee6bf7dfd1d0a6abe655733af434cef72010ba6193856e93b91a", func := "orchardry/orchlaw4.WeighSame", spec := "weighSame", unfollowed := true, recurses := true, apart := false }
def WeighSameSaid : Prop := weighSameRow.holds Try.pinned (OpenSpec.ofChange weighSameSpec)

/-- ITS FALSE NEIGHBOUR: 'it returns false'. Refute it at one input. -/
def weighSameWrong : ChangeSpec := { name := "weighSame", fn := fun _ => fun
  | [d1, d2, d3] => { results := [.lit (.bool false)], args := [d1, d2, d3] }
  | _ => none }
def WeighSameWrongFalsely : Prop := weighSameRow.holds Try.pinned (OpenSpec.ofChange weighSameWrong)

/-- 'orchlaw4.GrowShifts': WHATEVER THE INPUT: true; the input reads as it did. -/
def growShiftsSpec : ChangeSpec := { name := "growShifts", fn := fun _ => fun
  | [d1, d2, d3, d4, d5] => { results := [.lit (.bool true)], args := [d1, d2, d3, d4, d5] }
  | _ => none }
def growShiftsRow : OpenClaim := { program := "ytbailhcadjpflaa", sum := "1b5ef1c0ade4ee6bf7dfd1d0a6abe655733af434cef72010ba6193856e93b91a", func := "orchardry/orchlaw4.GrowShifts", spec := "growShifts", recurses := true, apart := false }
def GrowShiftsSaid : Prop := growShiftsRow.holds Try.pinned (OpenSpec.ofChange growShiftsSpec)

/-- ITS FALSE NEIGHBOUR: 'it returns false'. Refute it at one input. -/
def growShiftsWrong : ChangeSpec := { name := "growShifts", fn := fun _ => fun
  | [d1, d2, d3, d4, d5] => { results := [.lit (.bool false)], args := [d1, d2, d3, d4, d5] }
  | _ => none }
def GrowShiftsWrongFalsely : Prop := growShiftsRow.holds Try.pinned (OpenSpec.ofChange growShiftsWrong)

/- THE SECOND FORM. 'bulk': how many values and letters a reading holds, each counted each time it is reached (what is shared counts as often as it is met; a slice's spare places count too). A statement '..UptoSaid' is the law's where the arguments, and the package variables that the reading takes, are together of bulk at most 1048576: NARROWER than '..Said'. Prove '..Said' where nothing that the law and all that it calls make is longer than what came in: it says more and counts as full. Else prove '..UptoSaid'. A law counts once. -/
mutual
def uptoBulk {H : Type} : DataW H → Nat
  | .lit (.string bytes) => bytes.length + 1
  | .lit _ => 1
  | .nil => 1
  | .ptr d => uptoBulk d + 1
  | .slice elems spare => uptoBulkAll elems + uptoBulkAll spare + 1
  | .agg parts => uptoBulkAll parts + 1
  | .iface _ d => uptoBulk d + 1
  | .map entries => uptoBulkEntries entries + 1
  | .held _ => 1
def uptoBulkAll {H : Type} : List (DataW H) → Nat
  | [] => 0
  | d :: r => uptoBulk d + uptoBulkAll r
def uptoBulkEntries {H : Type} : List (Lit × DataW H) → Nat
  | [] => 0
  | x :: r => uptoBulkEntry x + uptoBulkEntries r
def uptoBulkEntry {H : Type} : Lit × DataW H → Nat
  | (.string bytes, d) => bytes.length + uptoBulk d + 1
  | (_, d) => uptoBulk d + 1
 end
def uptoSmall : (H : Type) → List (DataW H) → Bool := fun _ ds => decide (uptoBulkAll ds ≤ 1048576)
def OpenSpec.upto (s : _root_.Go.ChangeSpec) : _root_.Go.OpenSpec := { _root_.Go.OpenSpec.ofChange s with cond := some uptoSmall }

/-- 'orchlaw4.LimitSteps', WHERE WHAT IT READS IS OF BULK AT MOST 1048576: true; the input reads as it did. -/
def limitStepsUptoRow : OpenClaim := { program := "ytbailhcadjpflaa", sum := "1b5ef1c0ade4ee6bf7dfd1d0a6abe655733af434cef72010ba6193856e93b91a", func := "orchardry/orchlaw4.LimitSteps", spec := "limitSteps", unfollowed := true, recurses := true, apart := false, narrowed := true }
def LimitStepsUptoSaid : Prop := limitStepsUptoRow.holds Try.pinned (OpenSpec.upto limitStepsSpec)

/-- 'orchlaw2.LimitHolds', WHERE WHAT IT READS IS OF BULK AT MOST 1048576: true; the input reads as it did. -/
def limitHoldsUptoRow : OpenClaim := { program := "ytbailhcadjpflaa", sum := "1b5ef1c0ade4ee6bf7dfd1d0a6abe655733af434cef72010ba6193856e93b91a", func := "orchardry/orchlaw2.LimitHolds", spec := "limitHolds", unfollowed := true, recurses := true, apart := false, narrowed := true }
def LimitHoldsUptoSaid : Prop := limitHoldsUptoRow.holds Try.pinned (OpenSpec.upto limitHoldsSpec)

/-- 'orchlaw1.PathRegions', WHERE WHAT IT READS IS OF BULK AT MOST 1048576: true; the input reads as it did. -/
def pathRegionsUptoRow : OpenClaim := { program := "ytbailhcadjpflaa", sum := "1b5ef1c0ade4ee6bf7dfd1d0a6abe655733af434cef72010ba6193856e93b91a", func := "orchardry/orchlaw1.PathRegions", spec := "pathRegions", unfollowed := true, recurses := true, apart := false, narrowed := true }
def PathRegionsUptoSaid : Prop := pathRegionsUptoRow.holds Try.pinned (OpenSpec.upto pathRegionsSpec)

/-- 'orchlaw2.PruneSame', WHERE WHAT IT READS IS OF BULK AT MOST 1048576: true; the input reads as it did. -/
def pruneSameUptoRow : OpenClaim := { program := "ytbailhcadjpflaa", sum := "1b5ef1c0ade4ee6bf7dfd1d0a6abe655733af434cef72010ba6193856e93b91a", func := "orchardry/orchlaw2.PruneSame", spec := "pruneSame", unfollowed := true, recurses := true, apart := false, narrowed := true }
def PruneSameUptoSaid : Prop := pruneSameUptoRow.holds Try.pinned (OpenSpec.upto pruneSameSpec)

/-- 'orchlaw4.WeighSame', WHERE WHAT IT READS IS OF BULK AT MOST 1048576: true; the input reads as it did. -/
def weighSameUptoRow : OpenClaim := { program := "ytbailhcadjpflaa", sum := "1b5ef1c0ade4ee6bf7dfd1d0a6abe655733af434cef72010ba6193856e93b91a", func := "orchardry/orchlaw4.WeighSame", spec := "weighSame", unfollowed := true, recurses := true, apart := false, narrowed := true }
def WeighSameUptoSaid : Prop := weighSameUptoRow.holds Try.pinned (OpenSpec.upto weighSameSpec)

/-- 'orchlaw4.GrowShifts', WHERE WHAT IT READS IS OF BULK AT MOST 1048576: true; the input reads as it did. -/
def growShiftsUptoRow : OpenClaim := { program := "ytbailhcadjpflaa", sum := "1b5ef1c0ade4ee6bf7dfd1d0a6abe655733af434cef72010ba6193856e93b91a", func := "orchardry/orchlaw4.GrowShifts", spec := "growShifts", recurses := true, apart := false, narrowed := true }
def GrowShiftsUptoSaid : Prop := growShiftsUptoRow.holds Try.pinned (OpenSpec.upto growShiftsSpec)

end Rows
end Go.Proofs.Ytbailhcadjpflaa
