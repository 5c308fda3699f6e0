/- A slice of slices of numbers: how it reads. Conditions: none. -/
import Derived.Test.YtijgiieoinmjhaaDoorBase
namespace Go.Proofs.YtijgiieoinmjhaaDoor
set_option linter.unusedVariables false
set_option linter.unusedSimpArgs false
open Go.RowKit

/-- a slice of numbers that lies in a row -/
structure Ns where
  (A : Option Addr) (n c : Nat) (l : List Int)
def Ns.val (r : Ns) : Value := .slice r.A r.n r.c
instance : Inhabited Ns := ⟨⟨none, 0, 0, []⟩⟩
structure NsOk (k : IntKind) (w : World) (B : Nat) (r : Ns) : Prop where
  reads : Reads w B 1 r.A r.n (r.l.map (Value.int k))
  len : r.n ≤ maxLen
  cap : r.n ≤ r.c
  nil : r.A = none → r.c = 0
  wf : ∀ x ∈ r.l, (Lit.int k x).wf = true
def NsReads (k : IntKind) (w : World) (B : Nat) (A : Option Addr) (n : Nat) (ts : List Ns) : Prop := Reads w B 1 A n (ts.map Ns.val) ∧ ∀ r ∈ ts, NsOk k w B r
section
variable {k : IntKind} {w w' : World} {B B' n : Nat} {A : Option Addr} {ts : List Ns}
theorem NsOk.below {r : Ns} (h : NsOk k w B r) (hb : Below B w w') : NsOk k w' B r := ⟨h.reads.below hb, h.len, h.cap, h.nil, h.wf⟩
theorem NsReads.len (h : NsReads k w B A n ts) : ts.length = n := by have := h.1.1; simpa using this
theorem NsReads.below (h : NsReads k w B A n ts) (hb : Below B w w') : NsReads k w' B A n ts := ⟨h.1.below hb, fun r hr => (h.2 r hr).below hb⟩
theorem NsReads.get (h : NsReads k w B A n ts) {i : Nat} (hi : i < n) : ∃ b o r, A = some ⟨b, o, none⟩ ∧ b < B ∧ ts[i]? = some r ∧ w.cell? ⟨b, o + i, none⟩ = some (.slice r.A r.n r.c) ∧ NsOk k w B r := by
  obtain ⟨b, o, e, hb, hc⟩ := h.1.spot (by omega) (by omega)
  have hl := h.len
  have hi' : ts[i]? = some ts[i] := List.getElem?_eq_getElem (by omega)
  refine ⟨b, o, ts[i], e, hb, hi', hc i _ (by rw [List.getElem?_map, hi']; rfl), h.2 _ (List.getElem_mem _)⟩
end
end Go.Proofs.YtijgiieoinmjhaaDoor
