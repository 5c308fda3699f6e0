/- The words of this seat: a slice of ints as a list, error values, the plain meaning of the small checks. Conditions: none beyond what each lemma names. -/
import Derived.Test.YtopncifebldklaaWords
import Derived.Test.YtopncifebldklaaRows
namespace Go.Proofs.Ytopncifebldklaa
set_option linter.unusedVariables false
set_option linter.unusedSimpArgs false
open Go.RowKit

/-- a slice of ints reads as a list -/
def IReads (w : World) (B : Nat) (A : Option Addr) (n : Nat) (l : List Int) : Prop := Reads w B 1 A n (l.map (Value.int .i64))

section
variable {w w' : World} {B B' n : Nat} {A : Option Addr} {l : List Int}
theorem IReads.len (h : IReads w B A n l) : l.length = n := by have := h.1; simpa using this
theorem Reads.spot {size : Nat} {xs : List Value} (h : Reads w B size A n xs) (hn : 0 < n) (hs : 0 < size) : ∃ b off, A = some ⟨b, off, none⟩ ∧ b < B ∧ ∀ (j : Nat) (u : Value), xs[j]? = some u → w.cell? ⟨b, off + j, none⟩ = some u := by
  obtain ⟨ad, rfl, hb, hc⟩ := h.2 hn
  obtain ⟨b, off, spot⟩ := ad
  have hl : 0 < xs.length := by rw [h.1]; exact Nat.mul_pos hn hs
  have h0 := hc 0 _ (List.getElem?_eq_getElem hl)
  have hs : spot = none := by
    have := World.cell?_spot h0
    simpa [Addr.add] using this
  subst hs
  refine ⟨b, off, rfl, hb, fun j u hu => ?_⟩
  have := hc j u hu
  unfold Addr.add at this
  split at this
  · rename_i e; subst e; simpa using this
  · simpa using this
theorem IReads.get (h : IReads w B A n l) {k : Nat} (hk : k < n) :
    ∃ b off x, A = some ⟨b, off, none⟩ ∧ b < B ∧ l[k]? = some x ∧ w.cell? ⟨b, off + k, none⟩ = some (.int .i64 x) := by
  obtain ⟨b, off, rfl, hb, hc⟩ := Reads.spot h (by omega) (by omega)
  have hl : k < l.length := by rw [h.len]; exact hk
  exact ⟨b, off, l[k], rfl, hb, List.getElem?_eq_getElem hl, hc k _ (by simp [hl])⟩
theorem IReads.nil_ : IReads w B A 0 [] := ⟨by simp, fun h => absurd h (by omega)⟩
theorem IReads.keep (h : IReads w B A n l) (hk : ∀ p : Addr, p.block < B → w'.cell? p = w.cell? p) : IReads w' B A n l := Reads.keep h hk
theorem IReads.below (h : IReads w B A n l) (hb : Below B w w') : IReads w' B A n l := Reads.below h hb
theorem IReads.more (h : IReads w B A n l) (hB : B ≤ B') : IReads w B' A n l := Reads.more h hB
theorem IReads.of_own {base : Nat} {e : TypeId} {c : Nat} (h : w.ownsRow base e 1 (.slice A n c) n (l.map (Value.int .i64))) : IReads w w.heap.size A n l := Reads.of_own h
end

/-- the error values of the program -/
def errV (e : Int) : Value := if e = 0 then .nilIface else .iface 60 (.int .i64 e)
theorem errV_0 {e : Int} (h : e = 0) : errV e = .nilIface := by simp [errV, h]
theorem errV_1 {e : Int} (h : e ≠ 0) : errV e = .iface 60 (.int .i64 e) := by simp [errV, h]

def cellB (n : Int) : Bool := decide (-1000000 ≤ n) && decide (n ≤ 1000000)
theorem cellB_t {n : Int} : cellB n = true ↔ -1000000 ≤ n ∧ n ≤ 1000000 := by simp [cellB]
theorem cellB_f {n : Int} : cellB n = false ↔ n < -1000000 ∨ 1000000 < n := by simp only [cellB, Bool.and_eq_false_iff, decide_eq_false_iff_not]; omega

theorem cell_any (n : Int) (w : World) :
    Calls Try.prog 56 #[.int .i64 n] w fun e w' => e = .returned (.bool (cellB n)) ∧ w = w' := by
  by_cases h1 : -1000000 ≤ n
  · by_cases h2 : n ≤ 1000000
    · go_enter Try.func56, Try.ntmps56
      go_wp2
      go_ret
      exact ⟨by rw [cellB_t.2 ⟨h1, h2⟩]; rfl, rfl⟩
    · go_enter Try.func56, Try.ntmps56
      go_wp2
      go_ret
      exact ⟨by rw [cellB_f.2 (by omega)]; rfl, rfl⟩
  · go_enter Try.func56, Try.ntmps56
    go_wp2
    go_ret
    exact ⟨by rw [cellB_f.2 (by omega)]; rfl, rfl⟩

theorem ret_bool {a b : Bool} (h : a = b) : Ending.returned (.bool a) = .returned (.bool b) := by rw [h]
theorem ret_int {a b : Int} (h : a = b) : Ending.returned (.int .i64 a) = .returned (.int .i64 b) := by rw [h]
theorem take_next {α : Type} {l : List α} {k : Nat} {x : α} (h : l[k]? = some x) : l.take (k + 1) = l.take k ++ [x] := by
  rw [List.take_add_one, h]; rfl
theorem ne_of_at {α : Type} {xs ys : List α} {k : Nat} {x y : α} (hx : xs[k]? = some x) (hy : ys[k]? = some y) (h : x ≠ y) : xs ≠ ys := by
  rintro rfl
  rw [hx] at hy
  exact h (by injection hy)

end Go.Proofs.Ytopncifebldklaa
