/- cut.At (a binary search) and row.Bins. Conditions: cuts that rise; as each lemma names. -/
import Derived.Test.YtopncifebldklaaRow2
namespace Go.Proofs.Ytopncifebldklaa
set_option linter.unusedVariables false
set_option linter.unusedSimpArgs false
open Go.RowKit

/-! ### row.Bins -/
structure Rw where
  A : Option Addr
  n : Nat
  c : Nat
  l : List Int
def Rw.val (r : Rw) : Value := .slice r.A r.n r.c
def RReads (w : World) (B : Nat) (A : Option Addr) (n : Nat) (rs : List Rw) : Prop := Reads w B 1 A n (rs.map Rw.val) ∧ ∀ r ∈ rs, IReads w B r.A r.n r.l ∧ r.n ≤ maxLen
theorem RReads.below {w w' : World} {B n : Nat} {A : Option Addr} {rs : List Rw} (h : RReads w B A n rs) (hb : Below B w w') : RReads w' B A n rs :=
  ⟨h.1.below hb, fun r hr => ⟨(h.2 r hr).1.below hb, (h.2 r hr).2⟩⟩
theorem RReads.len {w : World} {B n : Nat} {A : Option Addr} {rs : List Rw} (h : RReads w B A n rs) : rs.length = n := by have := h.1.1; simpa using this
theorem RReads.get {w : World} {B n : Nat} {A : Option Addr} {rs : List Rw} (h : RReads w B A n rs) {k : Nat} (hk : k < n) :
    ∃ b off r, A = some ⟨b, off, none⟩ ∧ b < B ∧ rs[k]? = some r ∧ w.cell? ⟨b, off + k, none⟩ = some (.slice r.A r.n r.c) ∧ IReads w B r.A r.n r.l ∧ r.n ≤ maxLen := by
  obtain ⟨b, off, rfl, hb, hc⟩ := Reads.spot h.1 (by omega) (by omega)
  have hl : k < rs.length := by rw [h.len]; exact hk
  have hr : rs[k]? = some rs[k] := List.getElem?_eq_getElem hl
  have := h.2 _ (List.mem_of_getElem? hr)
  exact ⟨b, off, rs[k], rfl, hb, hr, hc k _ (by simp [hl, Rw.val]), this.1, this.2⟩

def firstE : List Rw → Int
  | [] => 0
  | x :: r => if cutE x.l = 0 then firstE r else cutE x.l
def binsE (l : List Int) (rs : List Rw) : Int := if rowE l = 0 then (if l.length = rs.length then firstE rs else 3) else rowE l
def binOf (c : Int) (r : Rw) : Int := if c = -1125899906842624 then c else (binN r.l c : Int)
def binsL (l : List Int) (rs : List Rw) : List Int := if binsE l rs = 0 then List.zipWith binOf l rs else []
/-- what row.Bins answers: a list, or nil and what is wrong -/
def BinsPost (l : List Int) (rs : List Rw) (w : World) (e : Ending) (w' : World) : Prop :=
  ∃ v, e = .returned (.tuple #[v, errV (binsE l rs)]) ∧ w'.ownsRow w.heap.size 3 1 v (binsL l rs).length ((binsL l rs).map (Value.int .i64)) ∧ Below w.heap.size w w'


theorem zipWith_at {α β γ : Type} (f : α → β → γ) {l : List α} {s : List β} {k : Nat} {x : α} {y : β} (hx : l[k]? = some x) (hy : s[k]? = some y) : (List.zipWith f l s)[k]? = some (f x y) := by
  rw [List.getElem?_zipWith, hx, hy]
theorem first_bad {rs : List Rw} {k : Nat} {r : Rw} (h : rs[k]? = some r) (hf : firstE (rs.drop k) = firstE rs) (hr : cutE r.l ≠ 0) : firstE rs = cutE r.l := by
  rw [← hf, drop_at h, firstE, if_neg hr]
theorem first_ok {rs : List Rw} {k : Nat} {r : Rw} (h : rs[k]? = some r) (hf : firstE (rs.drop k) = firstE rs) (hr : cutE r.l = 0) : firstE (rs.drop (k + 1)) = firstE rs := by
  rw [← hf, drop_at h, firstE, if_pos hr]
theorem bins_err {l : List Int} {rs : List Rw} (h : binsE l rs ≠ 0) : binsL l rs = [] := by unfold binsL; rw [if_neg h]
theorem BinsPost.fault {l : List Int} {rs : List Rw} {w w' : World} (h : binsE l rs ≠ 0) (hb : Below w.heap.size w w') : BinsPost l rs w (.returned (.tuple #[.slice none 0 0, errV (binsE l rs)])) w' :=
  ⟨_, rfl, by rw [bins_err h]; exact World.ownsRow_nil _ _ _ _, hb⟩

theorem take_map_next {l : List Int} {k : Nat} {x : Int} (h : l[k]? = some x) : (l.take k).map (Value.int .i64) ++ [.int .i64 x] = (l.take (k + 1)).map (Value.int .i64) := by
  rw [take_next h]; simp
end Go.Proofs.Ytopncifebldklaa
