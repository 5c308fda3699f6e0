/-
  No cell of these rows narrows 'for every input' (looked for: loops, veiled, ifaces, maps, wideKeys, modest, calm, conditions, laid).
  DERIVED. THE GIVEN ROWS OF THIS SEAT. 4 by the template 'for every input the law returns true; each argument reads behind the call as it read before'; 0 by the template 'total and deterministic' (their statements: YtefkjpcgcgofgaaTotals.lean).
  GIVEN WITH THE SEED: the statements are not yours to turn. If you find one false, say at which input.
  Laid BY PROGRAM, IN A SANDBOX (cutbox-rows.mjs): the forced cells as the released guide's own fill.sh prints them over the translation f548d4ad32f0997f… (all of the seat's roots in one cut). By AI agents, Wed Nov 11 2026. No macro, syntax, notation, axiom, sorry.
-/
import Derived.Test.YtefkjpcgcgofgaaChecked
import GoSem.Claim
import GoSem.ClaimJoined
import GoSem.ClaimMapViews
import Derived.JoinedTies
import Derived.KernelRfl
namespace Go.Proofs.Ytefkjpcgcgofgaa
/- THE CELL 'sum', in the pinned program and in every row, IS THE sha256 OF THE DUMP (.gsa) THAT YtefkjpcgcgofgaaProg.lean LOADS. Nothing in Lean hashes anything: it is a label: what it is worth is what the hold of that sum in a sandbox is worth. -/
noncomputable def Try.pinned : Pinned := { name := "ytefkjpcgcgofgaa", sum := "f548d4ad32f0997f2bf0e1068f6f60792eda595ced4d72a1d1782cf53ade90ad", checked := Try.checked }
namespace Rows
def none {H : Type} : Left H := { results := [], args := [] }

/-- 'orchlaw4.PruneOne': WHATEVER THE INPUT: true; the input reads as it did. -/
def pruneOneSpec : ChangeSpec := { name := "pruneOne", fn := fun _ => fun
  | [d1, d2, d3] => { results := [.lit (.bool true)], args := [d1, d2, d3] }
  | _ => none }
def pruneOneRow : OpenClaim := { program := "ytefkjpcgcgofgaa", sum := "f548d4ad32f0997f2bf0e1068f6f60792eda595ced4d72a1d1782cf53ade90ad", func := "orchardry/orchlaw4.PruneOne", spec := "pruneOne", unfollowed := true, recurses := true, apart := false }
def PruneOneSaid : Prop := pruneOneRow.holds Try.pinned (OpenSpec.ofChange pruneOneSpec)

/-- ITS FALSE NEIGHBOUR: 'it returns false'. Refute it at one input. -/
def pruneOneWrong : ChangeSpec := { name := "pruneOne", fn := fun _ => fun
  | [d1, d2, d3] => { results := [.lit (.bool false)], args := [d1, d2, d3] }
  | _ => none }
def PruneOneWrongFalsely : Prop := pruneOneRow.holds Try.pinned (OpenSpec.ofChange pruneOneWrong)

/-- 'orchlaw2.PruneSame': WHATEVER THE INPUT: true; the input reads as it did. -/
def pruneSameSpec : ChangeSpec := { name := "pruneSame", fn := fun _ => fun
  | [d1, d2] => { results := [.lit (.bool true)], args := [d1, d2] }
  | _ => none }
def pruneSameRow : OpenClaim := { program := "ytefkjpcgcgofgaa", sum := "f548d4ad32f0997f2bf0e1068f6f60792eda595ced4d72a1d1782cf53ade90ad", func := "orchardry/orchlaw2.PruneSame", spec := "pruneSame", unfollowed := true, recurses := true, apart := false }
def PruneSameSaid : Prop := pruneSameRow.holds Try.pinned (OpenSpec.ofChange pruneSameSpec)

/-- ITS FALSE NEIGHBOUR: 'it returns false'. Refute it at one input. -/
def pruneSameWrong : ChangeSpec := { name := "pruneSame", fn := fun _ => fun
  | [d1, d2] => { results := [.lit (.bool false)], args := [d1, d2] }
  | _ => none }
def PruneSameWrongFalsely : Prop := pruneSameRow.holds Try.pinned (OpenSpec.ofChange pruneSameWrong)

/-- 'orchlaw4.WeighSame': WHATEVER THE INPUT: true; the input reads as it did. -/
def weighSameSpec : ChangeSpec := { name := "weighSame", fn := fun _ => fun
  | [d1, d2, d3] => { results := [.lit (.bool true)], args := [d1, d2, d3] }
  | _ => none }
def weighSameRow : OpenClaim := { program := "ytefkjpcgcgofgaa", sum := "f548d4ad32f0997f2bf0e1068f6f60792eda595ced4d72a1d1782cf53ade90ad", func := "orchardry/orchlaw4.WeighSame", spec := "weighSame", unfollowed := true, recurses := true, apart := false }
def WeighSameSaid : Prop := weighSameRow.holds Try.pinned (OpenSpec.ofChange weighSameSpec)

/-- ITS FALSE NEIGHBOUR: 'it returns false'. Refute it at one input. -/
def weighSameWrong : ChangeSpec := { name := "weighSame", fn := fun _ => fun
  | [d1, d2, d3] => { results := [.lit (.bool false)], args := [d1, d2, d3] }
  | _ => none }
def WeighSameWrongFalsely : Prop := weighSameRow.holds Try.pinned (OpenSpec.ofChange weighSameWrong)

/-- 'orchlaw2.LimitHolds': WHATEVER THE INPUT: true; the input reads as it did. -/
def limitHoldsSpec : ChangeSpec := { name := "limitHolds", fn := fun _ => fun
  | [d1, d2, d3, d4] => { results := [.lit (.bool true)], args := [d1, d2, d3, d4] }
  | _ => none }
def limitHoldsRow : OpenClaim := { program := "ytefkjpcgcgofgaa", sum := "f548d4ad32f0997f2bf0e1068f6f60792eda595ced4d72a1d1782cf53ade90ad", func := "orchardry/orchlaw2.LimitHolds", spec := "limitHolds", unfollowed := true, recurses := true, apart := false }
def LimitHoldsSaid : Prop := limitHoldsRow.holds Try.pinned (OpenSpec.ofChange limitHoldsSpec)

/-- ITS FALSE NEIGHBOUR: 'it returns false'. Refute it at one input. -/
def limitHoldsWrong : ChangeSpec := { name := "limitHolds", fn := fun _ => fun
  | [d1, d2, d3, d4] => { results := [.lit (.bool false)], args := [d1, d2, d3, d4] }
  | _ => none }
def LimitHoldsWrongFalsely : Prop := limitHoldsRow.holds Try.pinned (OpenSpec.ofChange limitHoldsWrong)

/- THE SECOND FORM. 'bulk': how many values and letters a reading holds, each counted each time it is reached (what is shared counts as often as it is met; a slice's spare places count too). A statement '..UptoSaid' is the law's where the arguments, and the package variables that the reading takes, are together of bulk at most 1048576: NARROWER than '..Said'. Prove '..Said' where nothing that the law and all that it calls make is longer than what came in: it says more and counts as full. Else prove '..UptoSaid'. A law counts once. -/
mutual
def uptoBulk {H : Type} : DataW H → Nat
  | .lit (.string bytes) => bytes.length + 1
  | .lit _ => 1
  | .nil => 1
  | .ptr d => uptoBulk d + 1
  | .slice elems spare => uptoBulkAll elems + uptoBulkAll spare + 1
  | .agg parts => uptoBulkAll parts + 1
  | .iface _ d => uptoBulk d + 1
  | .map entries => uptoBulkEntries entries + 1
  | .held _ => 1
def uptoBulkAll {H : Type} : List (DataW H) → Nat
  | [] => 0
  | d :: r => uptoBulk d + uptoBulkAll r
def uptoBulkEntries {H : Type} : List (Lit × DataW H) → Nat
  | [] => 0
  | x :: r => uptoBulkEntry x + uptoBulkEntries r
def uptoBulkEntry {H : Type} : Lit × DataW H → Nat
  | (.string bytes, d) => bytes.length + uptoBulk d + 1
  | (_, d) => uptoBulk d + 1
 end
def uptoSmall : (H : Type) → List (DataW H) → Bool := fun _ ds => decide (uptoBulkAll ds ≤ 1048576)
def OpenSpec.upto (s : _root_.Go.ChangeSpec) : _root_.Go.OpenSpec := { _root_.Go.OpenSpec.ofChange s with cond := some uptoSmall }

/-- 'orchlaw4.PruneOne', WHERE WHAT IT READS IS OF BULK AT MOST 1048576: true; the input reads as it did. -/
def pruneOneUptoRow : OpenClaim := { program := "ytefkjpcgcgofgaa", sum := "f548d4ad32f0997f2bf0e1068f6f60792eda595ced4d72a1d1782cf53ade90ad", func := "orchardry/orchlaw4.PruneOne", spec := "pruneOne", unfollowed := true, recurses := true, apart := false, narrowed := true }
def PruneOneUptoSaid : Prop := pruneOneUptoRow.holds Try.pinned (OpenSpec.upto pruneOneSpec)

/-- 'orchlaw2.PruneSame', WHERE WHAT IT READS IS OF BULK AT MOST 1048576: true; the input reads as it did. -/
def pruneSameUptoRow : OpenClaim := { program := "ytefkjpcgcgofgaa", sum := "f548d4ad32f0997f2bf0e1068f6f60792eda595ced4d72a1d1782cf53ade90ad", func := "orchardry/orchlaw2.PruneSame", spec := "pruneSame", unfollowed := true, recurses := true, apart := false, narrowed := true }
def PruneSameUptoSaid : Prop := pruneSameUptoRow.holds Try.pinned (OpenSpec.upto pruneSameSpec)

/-- 'orchlaw4.WeighSame', WHERE WHAT IT READS IS OF BULK AT MOST 1048576: true; the input reads as it did. -/
def weighSameUptoRow : OpenClaim := { program := "ytefkjpcgcgofgaa", sum := "f548d4ad32f0997f2bf0e1068f6f60792eda595ced4d72a1d1782cf53ade90ad", func := "orchardry/orchlaw4.WeighSame", spec := "weighSame", unfollowed := true, recurses := true, apart := false, narrowed := true }
def WeighSameUptoSaid : Prop := weighSameUptoRow.holds Try.pinned (OpenSpec.upto weighSameSpec)

/-- 'orchlaw2.LimitHolds', WHERE WHAT IT READS IS OF BULK AT MOST 1048576: true; the input reads as it did. -/
def limitHoldsUptoRow : OpenClaim := { program := "ytefkjpcgcgofgaa", sum := "f548d4ad32f0997f2bf0e1068f6f60792eda595ced4d72a1d1782cf53ade90ad", func := "orchardry/orchlaw2.LimitHolds", spec := "limitHolds", unfollowed := true, recurses := true, apart := false, narrowed := true }
def LimitHoldsUptoSaid : Prop := limitHoldsUptoRow.holds Try.pinned (OpenSpec.upto limitHoldsSpec)

end Rows
end Go.Proofs.Ytefkjpcgcgofgaa
