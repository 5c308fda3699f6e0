/- Chapter 2, the small parts: cut.Check, cut.At (a binary search). Conditions: as each lemma names (a slice reads as a list; cut.At: cuts that rise). -/
import Derived.Test.YtopncifebldklaaBase
namespace Go.Proofs.Ytopncifebldklaa
set_option linter.unusedVariables false
set_option linter.unusedSimpArgs false
open Go.RowKit

theorem all_next {p : Int → Prop} {l : List Int} {k : Nat} {x : Int} (h : l[k]? = some x) (ha : ∀ y ∈ l.take k, p y) (hx : p x) : ∀ y ∈ l.take (k + 1), p y := by
  rw [take_next h]
  intro y hy
  rcases List.mem_append.1 hy with hy | hy
  · exact ha y hy
  · simp at hy; subst hy; exact hx

theorem elem_int : Elem Try.prog 22 3 (.int .i64 0) 1 8 := ⟨Try.underlying22, by kernel_rfl, rfl, by omega, by omega⟩

theorem own_new {w : World} {B : Nat} (cs : List Value) (t : TypeId) (size n : Nat) (h : cs.length = n * size) (hn : n ≤ maxLen) (hB : B ≤ w.heap.size) : (w.alloc (.cells cs.toArray t)).ownsRow B t size (.slice (some ⟨w.heap.size, 0, none⟩) n n) n cs := by
  refine ⟨h, .inr ⟨w.heap.size, n, cs.toArray, rfl, hB, heap_alloc_new w _, Nat.le_refl _, hn, by simpa using h, ?_⟩⟩
  rw [List.take_of_length_le (by simp [h])]

/-! ### cut.Check -/
def flat (p : Option Int) (c : Int) : Bool := match p with | some q => decide (c ≤ q) | none => false
def cutFrom (p : Option Int) : List Int → Int
  | [] => 0
  | c :: r => if cellB c = false then 1 else if flat p c = true then 3 else cutFrom (some c) r
def cutE (l : List Int) : Int := if 60 < l.length then 4 else cutFrom none l
def prev (l : List Int) (k : Nat) : Option Int := if k = 0 then none else l[k - 1]?

theorem drop_at {α : Type} {l : List α} {k : Nat} {x : α} (h : l[k]? = some x) : l.drop k = x :: l.drop (k + 1) := by
  obtain ⟨hl, rfl⟩ := List.getElem?_eq_some_iff.1 h
  exact List.drop_eq_getElem_cons hl
theorem prev_next {l : List Int} {k : Nat} {x : Int} (h : l[k]? = some x) : prev l (k + 1) = some x := by simp [prev, h]
theorem cut_bad {l : List Int} {k : Nat} {x : Int} (h : l[k]? = some x) (hr : cutFrom (prev l k) (l.drop k) = cutFrom none l) (hx : x < -1000000 ∨ 1000000 < x) : cutFrom none l = 1 := by
  rw [← hr, drop_at h, cutFrom, if_pos (cellB_f.2 hx)]
theorem cut_flat {l : List Int} {k : Nat} {x y : Int} (h : l[k + 1]? = some x) (h' : l[k]? = some y) (hr : cutFrom (prev l (k + 1)) (l.drop (k + 1)) = cutFrom none l) (hx : -1000000 ≤ x ∧ x ≤ 1000000) (hxy : x ≤ y) : cutFrom none l = 3 := by
  rw [← hr, drop_at h, cutFrom, if_neg (by rw [cellB_t.2 hx]; simp), prev_next h', if_pos (by simpa [flat] using hxy)]
theorem cut_ok {l : List Int} {k : Nat} {x : Int} (h : l[k]? = some x) (hr : cutFrom (prev l k) (l.drop k) = cutFrom none l) (hx : -1000000 ≤ x ∧ x ≤ 1000000) (hp : ∀ y, prev l k = some y → y < x) : cutFrom (prev l (k + 1)) (l.drop (k + 1)) = cutFrom none l := by
  rw [← hr, drop_at h, cutFrom, if_neg (by rw [cellB_t.2 hx]; simp), prev_next h]
  rw [if_neg]
  cases hq : prev l k with
  | none => simp [flat]
  | some y => have := hp y hq; simp [flat]; omega

/-! ### cut.At -/
def binN (l : List Int) (x : Int) : Nat := (l.filter fun c => decide (c ≤ x)).length
theorem binN_at {l : List Int} {x : Int} (i : Nat) (h1 : ∀ (p : Nat) a, l[p]? = some a → p < i → a ≤ x) (h2 : ∀ (p : Nat) a, l[p]? = some a → i ≤ p → x < a) (hi : i ≤ l.length) : binN l x = i := by
  unfold binN
  conv => lhs; rw [← List.take_append_drop i l]
  rw [List.filter_append, List.filter_eq_self.2, List.filter_eq_nil_iff.2]
  · simp; omega
  · intro a ha
    obtain ⟨p, hp⟩ := List.mem_iff_getElem?.1 ha
    rw [List.getElem?_drop] at hp
    have := h2 _ a hp (by omega)
    simp; omega
  · intro a ha
    obtain ⟨p, hp⟩ := List.mem_iff_getElem?.1 ha
    have hpi : p < i := by
      have := (List.getElem?_eq_some_iff.1 hp).1
      simp at this; omega
    rw [List.getElem?_take_of_lt hpi] at hp
    have := h1 _ a hp hpi
    simp; omega

def rises (l : List Int) : Prop := ∀ (p q : Nat) a b, p < q → l[p]? = some a → l[q]? = some b → a < b
theorem cutFrom_rises : ∀ (l : List Int) (p : Option Int), cutFrom p l = 0 → (∀ c ∈ l, cellB c = true) ∧ (∀ q, p = some q → ∀ c ∈ l, q < c) ∧ l.Pairwise (· < ·) := by
  intro l
  induction l with
  | nil => intro p _; simp
  | cons c r ih =>
    intro p h
    rw [cutFrom] at h
    by_cases h1 : cellB c = false
    · rw [if_pos h1] at h; cases h
    · rw [if_neg h1] at h
      by_cases h2 : flat p c = true
      · rw [if_pos h2] at h; cases h
      · rw [if_neg h2] at h
        obtain ⟨a1, a2, a3⟩ := ih (some c) h
        have hc : cellB c = true := by cases hb : cellB c <;> simp_all
        refine ⟨?_, ?_, ?_⟩
        · intro x hx
          rcases List.mem_cons.1 hx with rfl | hx
          · exact hc
          · exact a1 x hx
        · rintro q rfl x hx
          have hq : q < c := by simp [flat] at h2; omega
          rcases List.mem_cons.1 hx with rfl | hx
          · exact hq
          · have := a2 c rfl x hx; omega
        · exact List.pairwise_cons.2 ⟨fun x hx => a2 c rfl x hx, a3⟩
theorem cutE_rises {l : List Int} (h : cutE l = 0) : rises l ∧ (∀ c ∈ l, cellB c = true) ∧ l.length ≤ 60 := by
  unfold cutE at h
  split at h
  · cases h
  · obtain ⟨a1, _, a3⟩ := cutFrom_rises l none h
    refine ⟨?_, a1, by omega⟩
    intro p q a b hpq hp hq
    obtain ⟨hp', rfl⟩ := List.getElem?_eq_some_iff.1 hp
    obtain ⟨hq', rfl⟩ := List.getElem?_eq_some_iff.1 hq
    exact List.pairwise_iff_getElem.1 a3 p q hp' hq' hpq

def Lo (l : List Int) (x : Int) (i : Nat) : Prop := ∀ (p : Nat) a, l[p]? = some a → p < i → a < x
def Hi (l : List Int) (x : Int) (j : Nat) : Prop := ∀ (p : Nat) a, l[p]? = some a → j ≤ p → x ≤ a
theorem Lo_step {l : List Int} {x y : Int} {m : Nat} (hr : rises l) (hm : l[m]? = some y) (h : y < x) : Lo l x (m + 1) := by
  intro p a hp hpm
  rcases Nat.lt_or_ge p m with hlt | hge
  · have := hr p m a y hlt hp hm; omega
  · have : p = m := by omega
    subst this
    rw [hm] at hp; injection hp with hp; omega
theorem Hi_step {l : List Int} {x y : Int} {m : Nat} (hr : rises l) (hm : l[m]? = some y) (h : x ≤ y) : Hi l x m := by
  intro p a hp hpm
  rcases Nat.lt_or_ge m p with hlt | hge
  · have := hr m p y a hlt hm hp; omega
  · have : p = m := by omega
    subst this
    rw [hm] at hp; injection hp with hp; omega

end Go.Proofs.Ytopncifebldklaa
