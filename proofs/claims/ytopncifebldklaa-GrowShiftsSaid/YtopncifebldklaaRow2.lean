/- row.In, row.Fits, cut.At: spans and bins. Conditions: as each lemma names. -/
import Derived.Test.YtopncifebldklaaRow
namespace Go.Proofs.Ytopncifebldklaa
set_option linter.unusedVariables false
set_option linter.unusedSimpArgs false
open Go.RowKit

/-! ### rows of structs -/
theorem flatMap_at {α : Type} (f : α → List Value) (size : Nat) (hf : ∀ a, (f a).length = size) : ∀ (l : List α) (k j : Nat) (a : α), l[k]? = some a → j < size → (l.flatMap f)[k * size + j]? = (f a)[j]? := by
  intro l
  induction l with
  | nil => intro k j a h; simp at h
  | cons x r ih =>
    intro k j a h hj
    cases k with
    | zero =>
      simp at h; subst h
      rw [List.flatMap_cons, Nat.zero_mul, Nat.zero_add, List.getElem?_append_left (by rw [hf]; exact hj)]
    | succ k =>
      rw [List.flatMap_cons, List.getElem?_append_right (by rw [hf, Nat.succ_mul]; omega), hf]
      have : (k + 1) * size + j - size = k * size + j := by rw [Nat.succ_mul]; omega
      rw [this]
      exact ih k j a (by simpa using h) hj
theorem flatMap_len {α : Type} (f : α → List Value) (size : Nat) (hf : ∀ a, (f a).length = size) (l : List α) : (l.flatMap f).length = l.length * size := by
  induction l with
  | nil => simp
  | cons x r ih => rw [List.flatMap_cons, List.length_append, ih, hf, List.length_cons, Nat.succ_mul]; omega

structure Sp where
  low : Int
  high : Int
  ab : Bool
def Sp.cells (s : Sp) : List Value := [.int .i64 s.low, .int .i64 s.high, .bool s.ab]
def SReads (w : World) (B : Nat) (A : Option Addr) (n : Nat) (l : List Sp) : Prop := Reads w B 3 A n (l.flatMap Sp.cells)
section
variable {w w' : World} {B B' n : Nat} {A : Option Addr} {l : List Sp}
theorem SReads.len (h : SReads w B A n l) : l.length = n := by
  have := h.1
  rw [flatMap_len Sp.cells 3 (fun _ => rfl)] at this
  omega
theorem SReads.get (h : SReads w B A n l) {k : Nat} (hk : k < n) :
    ∃ b off s, A = some ⟨b, off, none⟩ ∧ b < B ∧ l[k]? = some s ∧ w.cell? ⟨b, off + k * 3, none⟩ = some (.int .i64 s.low) ∧ w.cell? ⟨b, off + k * 3 + 1, none⟩ = some (.int .i64 s.high) ∧ w.cell? ⟨b, off + k * 3 + 2, none⟩ = some (.bool s.ab) := by
  obtain ⟨b, off, rfl, hb, hc⟩ := Reads.spot h (by omega) (by omega)
  have hl : k < l.length := by rw [h.len]; exact hk
  have hs : l[k]? = some l[k] := List.getElem?_eq_getElem hl
  have F := fun j hj => flatMap_at Sp.cells 3 (fun _ => rfl) l k j l[k] hs hj
  refine ⟨b, off, l[k], rfl, hb, hs, ?_, ?_, ?_⟩
  · exact hc (k * 3 + 0) _ (F 0 (by omega))
  · exact hc (k * 3 + 1) _ (F 1 (by omega))
  · exact hc (k * 3 + 2) _ (F 2 (by omega))
theorem SReads.below (h : SReads w B A n l) (hb : Below B w w') : SReads w' B A n l := Reads.below h hb
theorem SReads.more (h : SReads w B A n l) (hB : B ≤ B') : SReads w B' A n l := Reads.more h hB
end

def inB (c : Int) (s : Sp) : Bool := if c = -1125899906842624 then s.ab else decide (s.low ≤ c) && decide (c ≤ s.high)
/-- what row.Fits answers -/
def fitsE (l : List Int) (s : List Sp) : Int := if rowE l = 0 then (if l.length = s.length then 0 else 3) else rowE l
def fitsB (l : List Int) (s : List Sp) : Bool := fitsE l s == 0 && (l.zip s).all fun p => inB p.1 p.2

theorem fits_err {l : List Int} {s : List Sp} (h : fitsE l s ≠ 0) : fitsB l s = false := by
  unfold fitsB; rw [beq_eq_false_iff_ne.2 h]; rfl
theorem zip_at {α β : Type} {l : List α} {s : List β} {k : Nat} {x : α} {y : β} (hx : l[k]? = some x) (hy : s[k]? = some y) : (l.zip s)[k]? = some (x, y) := by
  rw [List.getElem?_zip_eq_some]; exact ⟨hx, hy⟩
theorem fits_no {l : List Int} {s : List Sp} {k : Nat} {x : Int} {y : Sp} (hx : l[k]? = some x) (hy : s[k]? = some y) (h : inB x y = false) : fitsB l s = false := by
  unfold fitsB
  rw [Bool.and_eq_false_iff]
  right
  rw [Bool.eq_false_iff]
  intro ha
  rw [List.all_eq_true] at ha
  have := ha _ (List.mem_of_getElem? (zip_at hx hy))
  rw [h] at this
  cases this
theorem fits_next {l : List Int} {s : List Sp} {k : Nat} {x : Int} {y : Sp} (hx : l[k]? = some x) (hy : s[k]? = some y) (h : ∀ p ∈ (l.zip s).take k, inB p.1 p.2 = true) (hi : inB x y = true) : ∀ p ∈ (l.zip s).take (k + 1), inB p.1 p.2 = true := by
  rw [take_next (zip_at hx hy)]
  intro p hp
  rcases List.mem_append.1 hp with hp | hp
  · exact h p hp
  · simp at hp; subst hp; exact hi
theorem fits_yes {l : List Int} {s : List Sp} {k : Nat} (he : fitsE l s = 0) (hk : l.length ≤ k) (h : ∀ p ∈ (l.zip s).take k, inB p.1 p.2 = true) : fitsB l s = true := by
  unfold fitsB
  rw [he]
  rw [List.take_of_length_le (by rw [List.length_zip]; omega)] at h
  simpa [List.all_eq_true] using h

end Go.Proofs.Ytopncifebldklaa
