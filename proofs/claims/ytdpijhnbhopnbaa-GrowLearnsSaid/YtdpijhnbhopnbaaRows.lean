/-
  No cell of these rows narrows 'for every input' (looked for: loops, veiled, ifaces, maps, wideKeys, modest, calm, conditions, laid).
  DERIVED. THE GIVEN ROWS OF THIS SEAT. 3 by the template 'for every input the law returns true; each argument reads behind the call as it read before'; 0 by the template 'total and deterministic' (their statements: YtdpijhnbhopnbaaTotals.lean).
  GIVEN WITH THE SEED: the statements are not yours to turn. If you find one false, say at which input.
  Laid BY PROGRAM, IN A SANDBOX (cutbox-rows.mjs): the forced cells as the released guide's own fill.sh prints them over the translation ec228e1a0ba5d33a… (all of the seat's roots in one cut). By AI agents, Wed Nov 11 2026. No macro, syntax, notation, axiom, sorry.
-/
import Derived.Test.YtdpijhnbhopnbaaChecked
import GoSem.Claim
import GoSem.ClaimJoined
import GoSem.ClaimMapViews
import Derived.JoinedTies
import Derived.KernelRfl
namespace Go.Proofs.Ytdpijhnbhopnbaa
/- THE CELL 'sum', in the pinned program and in every row, IS THE sha256 OF THE DUMP (.gsa) THAT YtdpijhnbhopnbaaProg.lean LOADS. Nothing in Lean hashes anything: it is a label: what it is worth is what the hold of that sum in a sandbox is worth. -/
noncomputable def Try.pinned : Pinned := { name := "ytdpijhnbhopnbaa", sum := "ec228e1a0ba5d33a9a7b41f3e66f52cc58d826dd6f2ee58c98ddeeb67cba16c1", checked := Try.checked }
namespace Rows
def none {H : Type} : Left H := { results := [], args := [] }

/-- 'orchlaw2.GrowLearns': WHATEVER THE INPUT: true; the input reads as it did. -/
def growLearnsSpec : ChangeSpec := { name := "growLearns", fn := fun _ => fun
  | [d1, d2, d3, d4, d5, d6] => { results := [.lit (.bool true)], args := [d1, d2, d3, d4, d5, d6] }
  | _ => none }
def growLearnsRow : OpenClaim := { program := "ytdpijhnbhopnbaa", sum := "ec228e1a0ba5d33a9a7b41f3e66f52cc58d826dd6f2ee58c98ddeeb67cba16c1", func := "orchardry/orchlaw2.GrowLearns", spec := "growLearns", unfollowed := true, recurses := true, apart := false }
def GrowLearnsSaid : Prop := growLearnsRow.holds Try.pinned (OpenSpec.ofChange growLearnsSpec)

/-- ITS FALSE NEIGHBOUR: 'it returns false'. Refute it at one input. -/
def growLearnsWrong : ChangeSpec := { name := "growLearns", fn := fun _ => fun
  | [d1, d2, d3, d4, d5, d6] => { results := [.lit (.bool false)], args := [d1, d2, d3, d4, d5, d6] }
  | _ => none }
def GrowLearnsWrongFalsely : Prop := growLearnsRow.holds Try.pinned (OpenSpec.ofChange growLearnsWrong)

/-- 'orchlaw2.BoostLearns': WHATEVER THE INPUT: true; the input reads as it did. -/
def boostLearnsSpec : ChangeSpec := { name := "boostLearns", fn := fun _ => fun
  | [d1, d2, d3, d4, d5] => { results := [.lit (.bool true)], args := [d1, d2, d3, d4, d5] }
  | _ => none }
def boostLearnsRow : OpenClaim := { program := "ytdpijhnbhopnbaa", sum := "ec228e1a0ba5d33a9a7b41f3e66f52cc58d826dd6f2ee58c98ddeeb67cba16c1", func := "orchardry/orchlaw2.BoostLearns", spec := "boostLearns", unfollowed := true, recurses := true, apart := false }
def BoostLearnsSaid : Prop := boostLearnsRow.holds Try.pinned (OpenSpec.ofChange boostLearnsSpec)

/-- ITS FALSE NEIGHBOUR: 'it returns false'. Refute it at one input. -/
def boostLearnsWrong : ChangeSpec := { name := "boostLearns", fn := fun _ => fun
  | [d1, d2, d3, d4, d5] => { results := [.lit (.bool false)], args := [d1, d2, d3, d4, d5] }
  | _ => none }
def BoostLearnsWrongFalsely : Prop := boostLearnsRow.holds Try.pinned (OpenSpec.ofChange boostLearnsWrong)

/-- 'orchlaw4.BoostFirst': WHATEVER THE INPUT: true; the input reads as it did. -/
def boostFirstSpec : ChangeSpec := { name := "boostFirst", fn := fun _ => fun
  | [d1, d2, d3, d4] => { results := [.lit (.bool true)], args := [d1, d2, d3, d4] }
  | _ => none }
def boostFirstRow : OpenClaim := { program := "ytdpijhnbhopnbaa", sum := "ec228e1a0ba5d33a9a7b41f3e66f52cc58d826dd6f2ee58c98ddeeb67cba16c1", func := "orchardry/orchlaw4.BoostFirst", spec := "boostFirst", unfollowed := true, recurses := true, apart := false }
def BoostFirstSaid : Prop := boostFirstRow.holds Try.pinned (OpenSpec.ofChange boostFirstSpec)

/-- ITS FALSE NEIGHBOUR: 'it returns false'. Refute it at one input. -/
def boostFirstWrong : ChangeSpec := { name := "boostFirst", fn := fun _ => fun
  | [d1, d2, d3, d4] => { results := [.lit (.bool false)], args := [d1, d2, d3, d4] }
  | _ => none }
def BoostFirstWrongFalsely : Prop := boostFirstRow.holds Try.pinned (OpenSpec.ofChange boostFirstWrong)

/- THE SECOND FORM. 'bulk': how many values and letters a reading holds, each counted each time it is reached (what is shared counts as often as it is met; a slice's spare places count too). A statement '..UptoSaid' is the law's where the arguments, and the package variables that the reading takes, are together of bulk at most 1048576: NARROWER than '..Said'. Prove '..Said' where nothing that the law and all that it calls make is longer than what came in: it says more and counts as full. Else prove '..UptoSaid'. A law counts once. -/
mutual
def uptoBulk {H : Type} : DataW H → Nat
  | .lit (.string bytes) => bytes.length + 1
  | .lit _ => 1
  | .nil => 1
  | .ptr d => uptoBulk d + 1
  | .slice elems spare => uptoBulkAll elems + uptoBulkAll spare + 1
  | .agg parts => uptoBulkAll parts + 1
  | .iface _ d => uptoBulk d + 1
  | .map entries => uptoBulkEntries entries + 1
  | .held _ => 1
def uptoBulkAll {H : Type} : List (DataW H) → Nat
  | [] => 0
  | d :: r => uptoBulk d + uptoBulkAll r
def uptoBulkEntries {H : Type} : List (Lit × DataW H) → Nat
  | [] => 0
  | x :: r => uptoBulkEntry x + uptoBulkEntries r
def uptoBulkEntry {H : Type} : Lit × DataW H → Nat
  | (.string bytes, d) => bytes.length + uptoBulk d + 1
  | (_, d) => uptoBulk d + 1
 end
def uptoSmall : (H : Type) → List (DataW H) → Bool := fun _ ds => decide (uptoBulkAll ds ≤ 1048576)
def OpenSpec.upto (s : _root_.Go.ChangeSpec) : _root_.Go.OpenSpec := { _root_.Go.OpenSpec.ofChange s with cond := some uptoSmall }

/-- 'orchlaw2.GrowLearns', WHERE WHAT IT READS IS OF BULK AT MOST 1048576: true; the input reads as it did. -/
def growLearnsUptoRow : OpenClaim := { program := "ytdpijhnbhopnbaa", sum := "ec228e1a0ba5d33a9a7b41f3e66f52cc58d826dd6f2ee58c98ddeeb67cba16c1", func := "orchardry/orchlaw2.GrowLearns", spec := "growLearns", unfollowed := true, recurses := true, apart := false, narrowed := true }
def GrowLearnsUptoSaid : Prop := growLearnsUptoRow.holds Try.pinned (OpenSpec.upto growLearnsSpec)

/-- 'orchlaw2.BoostLearns', WHERE WHAT IT READS IS OF BULK AT MOST 1048576: true; the input reads as it did. -/
def boostLearnsUptoRow : OpenClaim := { program := "ytdpijhnbhopnbaa", sum := "ec228e1a0ba5d33a9a7b41f3e66f52cc58d826dd6f2ee58c98ddeeb67cba16c1", func := "orchardry/orchlaw2.BoostLearns", spec := "boostLearns", unfollowed := true, recurses := true, apart := false, narrowed := true }
def BoostLearnsUptoSaid : Prop := boostLearnsUptoRow.holds Try.pinned (OpenSpec.upto boostLearnsSpec)

/-- 'orchlaw4.BoostFirst', WHERE WHAT IT READS IS OF BULK AT MOST 1048576: true; the input reads as it did. -/
def boostFirstUptoRow : OpenClaim := { program := "ytdpijhnbhopnbaa", sum := "ec228e1a0ba5d33a9a7b41f3e66f52cc58d826dd6f2ee58c98ddeeb67cba16c1", func := "orchardry/orchlaw4.BoostFirst", spec := "boostFirst", unfollowed := true, recurses := true, apart := false, narrowed := true }
def BoostFirstUptoSaid : Prop := boostFirstUptoRow.holds Try.pinned (OpenSpec.upto boostFirstSpec)

end Rows
end Go.Proofs.Ytdpijhnbhopnbaa
