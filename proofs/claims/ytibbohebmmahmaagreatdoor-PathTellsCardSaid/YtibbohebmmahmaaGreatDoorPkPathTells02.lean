/- Part 2 of what LawPathTells needs: Base, Cut, Row, Row2. Conditions: as each lemma names. -/
import Derived.Test.YtibbohebmmahmaaGreatDoorPkPathTells01
import Derived.Test.YtibbohebmmahmaaGreatDoorRows
/- The words of this seat: a slice of ints as a list, error values, the plain meaning of the small checks. Conditions: none beyond what each lemma names. -/
namespace Go.Proofs.YtibbohebmmahmaaGreatDoor
set_option linter.unusedVariables false
set_option linter.unusedSimpArgs false
open Go.RowKit

/-- a slice of ints reads as a list -/
def IReads (w : World) (B : Nat) (A : Option Addr) (n : Nat) (l : List Int) : Prop := Reads w B 1 A n (l.map (Value.int .i64))

section
variable {w w' : World} {B B' n : Nat} {A : Option Addr} {l : List Int}
theorem IReads.len (h : IReads w B A n l) : l.length = n := by have := h.1; simpa using this
theorem Reads.spot {size : Nat} {xs : List Value} (h : Reads w B size A n xs) (hn : 0 < n) (hs : 0 < size) : ∃ b off, A = some ⟨b, off, none⟩ ∧ b < B ∧ ∀ (j : Nat) (u : Value), xs[j]? = some u → w.cell? ⟨b, off + j, none⟩ = some u := by
  obtain ⟨ad, rfl, hb, hc⟩ := h.2 hn
  obtain ⟨b, off, spot⟩ := ad
  have hl : 0 < xs.length := by rw [h.1]; exact Nat.mul_pos hn hs
  have h0 := hc 0 _ (List.getElem?_eq_getElem hl)
  have hs : spot = none := by
    have := World.cell?_spot h0
    simpa [Addr.add] using this
  subst hs
  refine ⟨b, off, rfl, hb, fun j u hu => ?_⟩
  have := hc j u hu
  unfold Addr.add at this
  split at this
  · rename_i e; subst e; simpa using this
  · simpa using this
theorem IReads.get (h : IReads w B A n l) {k : Nat} (hk : k < n) :
    ∃ b off x, A = some ⟨b, off, none⟩ ∧ b < B ∧ l[k]? = some x ∧ w.cell? ⟨b, off + k, none⟩ = some (.int .i64 x) := by
  obtain ⟨b, off, rfl, hb, hc⟩ := Reads.spot h (by omega) (by omega)
  have hl : k < l.length := by rw [h.len]; exact hk
  exact ⟨b, off, l[k], rfl, hb, List.getElem?_eq_getElem hl, hc k _ (by simp [hl])⟩
theorem IReads.nil_ : IReads w B A 0 [] := ⟨by simp, fun h => absurd h (by omega)⟩
theorem IReads.keep (h : IReads w B A n l) (hk : ∀ p : Addr, p.block < B → w'.cell? p = w.cell? p) : IReads w' B A n l := Reads.keep h hk
theorem IReads.below (h : IReads w B A n l) (hb : Below B w w') : IReads w' B A n l := Reads.below h hb
theorem IReads.more (h : IReads w B A n l) (hB : B ≤ B') : IReads w B' A n l := Reads.more h hB
theorem IReads.of_own {base : Nat} {e : TypeId} {c : Nat} (h : w.ownsRow base e 1 (.slice A n c) n (l.map (Value.int .i64))) : IReads w w.heap.size A n l := Reads.of_own h
end

/-- the error values of the program -/
def errV (e : Int) : Value := if e = 0 then .nilIface else .iface 59 (.int .i64 e)
theorem errV_0 {e : Int} (h : e = 0) : errV e = .nilIface := by simp [errV, h]
theorem errV_1 {e : Int} (h : e ≠ 0) : errV e = .iface 59 (.int .i64 e) := by simp [errV, h]

def cellB (n : Int) : Bool := decide (-1000000 ≤ n) && decide (n ≤ 1000000)
theorem cellB_t {n : Int} : cellB n = true ↔ -1000000 ≤ n ∧ n ≤ 1000000 := by simp [cellB]
theorem cellB_f {n : Int} : cellB n = false ↔ n < -1000000 ∨ 1000000 < n := by simp only [cellB, Bool.and_eq_false_iff, decide_eq_false_iff_not]; omega

theorem cell_any (n : Int) (w : World) :
    Calls Tryz.prog 55 #[.int .i64 n] w fun e w' => e = .returned (.bool (cellB n)) ∧ w = w' := by
  by_cases h1 : -1000000 ≤ n
  · by_cases h2 : n ≤ 1000000
    · go_enter Tryz.func55, Tryz.ntmps55
      go_wp2
      go_ret
      exact ⟨by rw [cellB_t.2 ⟨h1, h2⟩]; rfl, rfl⟩
    · go_enter Tryz.func55, Tryz.ntmps55
      go_wp2
      go_ret
      exact ⟨by rw [cellB_f.2 (by omega)]; rfl, rfl⟩
  · go_enter Tryz.func55, Tryz.ntmps55
    go_wp2
    go_ret
    exact ⟨by rw [cellB_f.2 (by omega)]; rfl, rfl⟩

theorem ret_bool {a b : Bool} (h : a = b) : Ending.returned (.bool a) = .returned (.bool b) := by rw [h]
theorem ret_int {a b : Int} (h : a = b) : Ending.returned (.int .i64 a) = .returned (.int .i64 b) := by rw [h]
theorem take_next {α : Type} {l : List α} {k : Nat} {x : α} (h : l[k]? = some x) : l.take (k + 1) = l.take k ++ [x] := by
  rw [List.take_add_one, h]; rfl
theorem ne_of_at {α : Type} {xs ys : List α} {k : Nat} {x y : α} (hx : xs[k]? = some x) (hy : ys[k]? = some y) (h : x ≠ y) : xs ≠ ys := by
  rintro rfl
  rw [hx] at hy
  exact h (by injection hy)

theorem ints_any (A C : Option Addr) (n m ca cc : Nat) (xs ys : List Int) (w : World) (BA BC : Nat) (ha : IReads w BA A n xs) (hc : IReads w BC C m ys) (hn : n ≤ maxLen) (hm : m ≤ maxLen) :
    Calls Tryz.prog 10 #[.slice A n ca, .slice C m cc] w fun e w' => e = .returned (.bool (xs == ys)) ∧ ∃ q, w' = w.drewN q := by
  unfold maxLen at hn hm
  have hlx := ha.len
  have hly := hc.len
  by_cases hnm : n = m
  · subst hnm
    go_enter Tryz.func10, Tryz.ntmps10
    go_wp2
    go_loopw [5] (fun i wr => ∃ k q : Nat, k ≤ n ∧ i = .int .i64 k ∧ xs.take k = ys.take k ∧ wr = w.drewN q) (fun i _ => n - (intOf i).toNat)
    case atStart => exact ⟨0, 0, Nat.zero_le _, rfl, by simp, rfl⟩
    case round =>
      obtain ⟨k, q, hk, rfl, htk, rfl⟩ := hrel
      have HT := hide htk
      clear htk
      by_cases hlt : k < n
      · obtain ⟨b, o, x, rfl, _, hx, hcx⟩ := ha.get hlt
        obtain ⟨b2, o2, y, rfl, _, hy, hcy⟩ := hc.get hlt
        have HX := hide hx
        have HY := hide hy
        clear hx hy
        by_cases hxy : x = y
        · subst hxy
          have hne : (x != x) = false := by simp
          go_wp2
          go_quiet (fail)
          go_wp2
          go_roundw
          case rel => exact ⟨k + 1, q + nq, by omega, by go_num, by rw [take_next (unhide HX), take_next (unhide HY), unhide HT], by first | rfl | rw [World.drewN_drewN]⟩
          case measure => simp [intOf]; omega
        · have hne : (x != y) = true := by simpa using hxy
          go_wp2
          go_quiet (fail)
          go_wp2
          go_ret
          exact ⟨ret_bool (Eq.symm (by rw [beq_eq_false_iff_ne]; exact ne_of_at (unhide HX) (unhide HY) hxy)), q + nq, by first | rfl | rw [World.drewN_drewN]⟩
      · go_wp2
        go_ret
        refine ⟨ret_bool (Eq.symm ?_), q, rfl⟩
        rw [beq_iff_eq]
        have := unhide HT
        rwa [List.take_of_length_le (by omega), List.take_of_length_le (by omega)] at this
  · go_enter Tryz.func10, Tryz.ntmps10
    go_wp2
    go_ret
    exact ⟨ret_bool (Eq.symm (by rw [beq_eq_false_iff_ne]; intro e; subst e; omega)), 0, rfl⟩
end Go.Proofs.YtibbohebmmahmaaGreatDoor
/- Chapter 2, the small parts: cut.Check, cut.At (a binary search). Conditions: as each lemma names (a slice reads as a list; cut.At: cuts that rise). -/
namespace Go.Proofs.YtibbohebmmahmaaGreatDoor
set_option linter.unusedVariables false
set_option linter.unusedSimpArgs false
open Go.RowKit

theorem all_next {p : Int → Prop} {l : List Int} {k : Nat} {x : Int} (h : l[k]? = some x) (ha : ∀ y ∈ l.take k, p y) (hx : p x) : ∀ y ∈ l.take (k + 1), p y := by
  rw [take_next h]
  intro y hy
  rcases List.mem_append.1 hy with hy | hy
  · exact ha y hy
  · simp at hy; subst hy; exact hx

theorem elem_int : Elem Tryz.prog 23 3 (.int .i64 0) 1 8 := ⟨Tryz.underlying23, by kernel_rfl, rfl, by omega, by omega⟩

theorem own_new {w : World} {B : Nat} (cs : List Value) (t : TypeId) (size n : Nat) (h : cs.length = n * size) (hn : n ≤ maxLen) (hB : B ≤ w.heap.size) : (w.alloc (.cells cs.toArray t)).ownsRow B t size (.slice (some ⟨w.heap.size, 0, none⟩) n n) n cs := by
  refine ⟨h, .inr ⟨w.heap.size, n, cs.toArray, rfl, hB, heap_alloc_new w _, Nat.le_refl _, hn, by simpa using h, ?_⟩⟩
  rw [List.take_of_length_le (by simp [h])]

/-! ### cut.Check -/
def flat (p : Option Int) (c : Int) : Bool := match p with | some q => decide (c ≤ q) | none => false
def cutFrom (p : Option Int) : List Int → Int
  | [] => 0
  | c :: r => if cellB c = false then 1 else if flat p c = true then 3 else cutFrom (some c) r
def cutE (l : List Int) : Int := if 60 < l.length then 4 else cutFrom none l
def prev (l : List Int) (k : Nat) : Option Int := if k = 0 then none else l[k - 1]?

theorem drop_at {α : Type} {l : List α} {k : Nat} {x : α} (h : l[k]? = some x) : l.drop k = x :: l.drop (k + 1) := by
  obtain ⟨hl, rfl⟩ := List.getElem?_eq_some_iff.1 h
  exact List.drop_eq_getElem_cons hl
theorem prev_next {l : List Int} {k : Nat} {x : Int} (h : l[k]? = some x) : prev l (k + 1) = some x := by simp [prev, h]
theorem cut_bad {l : List Int} {k : Nat} {x : Int} (h : l[k]? = some x) (hr : cutFrom (prev l k) (l.drop k) = cutFrom none l) (hx : x < -1000000 ∨ 1000000 < x) : cutFrom none l = 1 := by
  rw [← hr, drop_at h, cutFrom, if_pos (cellB_f.2 hx)]
theorem cut_flat {l : List Int} {k : Nat} {x y : Int} (h : l[k + 1]? = some x) (h' : l[k]? = some y) (hr : cutFrom (prev l (k + 1)) (l.drop (k + 1)) = cutFrom none l) (hx : -1000000 ≤ x ∧ x ≤ 1000000) (hxy : x ≤ y) : cutFrom none l = 3 := by
  rw [← hr, drop_at h, cutFrom, if_neg (by rw [cellB_t.2 hx]; simp), prev_next h', if_pos (by simpa [flat] using hxy)]
theorem cut_ok {l : List Int} {k : Nat} {x : Int} (h : l[k]? = some x) (hr : cutFrom (prev l k) (l.drop k) = cutFrom none l) (hx : -1000000 ≤ x ∧ x ≤ 1000000) (hp : ∀ y, prev l k = some y → y < x) : cutFrom (prev l (k + 1)) (l.drop (k + 1)) = cutFrom none l := by
  rw [← hr, drop_at h, cutFrom, if_neg (by rw [cellB_t.2 hx]; simp), prev_next h]
  rw [if_neg]
  cases hq : prev l k with
  | none => simp [flat]
  | some y => have := hp y hq; simp [flat]; omega

/-! ### cut.At -/
def binN (l : List Int) (x : Int) : Nat := (l.filter fun c => decide (c ≤ x)).length
theorem binN_at {l : List Int} {x : Int} (i : Nat) (h1 : ∀ (p : Nat) a, l[p]? = some a → p < i → a ≤ x) (h2 : ∀ (p : Nat) a, l[p]? = some a → i ≤ p → x < a) (hi : i ≤ l.length) : binN l x = i := by
  unfold binN
  conv => lhs; rw [← List.take_append_drop i l]
  rw [List.filter_append, List.filter_eq_self.2, List.filter_eq_nil_iff.2]
  · simp; omega
  · intro a ha
    obtain ⟨p, hp⟩ := List.mem_iff_getElem?.1 ha
    rw [List.getElem?_drop] at hp
    have := h2 _ a hp (by omega)
    simp; omega
  · intro a ha
    obtain ⟨p, hp⟩ := List.mem_iff_getElem?.1 ha
    have hpi : p < i := by
      have := (List.getElem?_eq_some_iff.1 hp).1
      simp at this; omega
    rw [List.getElem?_take_of_lt hpi] at hp
    have := h1 _ a hp hpi
    simp; omega

def rises (l : List Int) : Prop := ∀ (p q : Nat) a b, p < q → l[p]? = some a → l[q]? = some b → a < b
theorem cutFrom_rises : ∀ (l : List Int) (p : Option Int), cutFrom p l = 0 → (∀ c ∈ l, cellB c = true) ∧ (∀ q, p = some q → ∀ c ∈ l, q < c) ∧ l.Pairwise (· < ·) := by
  intro l
  induction l with
  | nil => intro p _; simp
  | cons c r ih =>
    intro p h
    rw [cutFrom] at h
    by_cases h1 : cellB c = false
    · rw [if_pos h1] at h; cases h
    · rw [if_neg h1] at h
      by_cases h2 : flat p c = true
      · rw [if_pos h2] at h; cases h
      · rw [if_neg h2] at h
        obtain ⟨a1, a2, a3⟩ := ih (some c) h
        have hc : cellB c = true := by cases hb : cellB c <;> simp_all
        refine ⟨?_, ?_, ?_⟩
        · intro x hx
          rcases List.mem_cons.1 hx with rfl | hx
          · exact hc
          · exact a1 x hx
        · rintro q rfl x hx
          have hq : q < c := by simp [flat] at h2; omega
          rcases List.mem_cons.1 hx with rfl | hx
          · exact hq
          · have := a2 c rfl x hx; omega
        · exact List.pairwise_cons.2 ⟨fun x hx => a2 c rfl x hx, a3⟩
theorem cutE_rises {l : List Int} (h : cutE l = 0) : rises l ∧ (∀ c ∈ l, cellB c = true) ∧ l.length ≤ 60 := by
  unfold cutE at h
  split at h
  · cases h
  · obtain ⟨a1, _, a3⟩ := cutFrom_rises l none h
    refine ⟨?_, a1, by omega⟩
    intro p q a b hpq hp hq
    obtain ⟨hp', rfl⟩ := List.getElem?_eq_some_iff.1 hp
    obtain ⟨hq', rfl⟩ := List.getElem?_eq_some_iff.1 hq
    exact List.pairwise_iff_getElem.1 a3 p q hp' hq' hpq

def Lo (l : List Int) (x : Int) (i : Nat) : Prop := ∀ (p : Nat) a, l[p]? = some a → p < i → a < x
def Hi (l : List Int) (x : Int) (j : Nat) : Prop := ∀ (p : Nat) a, l[p]? = some a → j ≤ p → x ≤ a
theorem Lo_step {l : List Int} {x y : Int} {m : Nat} (hr : rises l) (hm : l[m]? = some y) (h : y < x) : Lo l x (m + 1) := by
  intro p a hp hpm
  rcases Nat.lt_or_ge p m with hlt | hge
  · have := hr p m a y hlt hp hm; omega
  · have : p = m := by omega
    subst this
    rw [hm] at hp; injection hp with hp; omega
theorem Hi_step {l : List Int} {x y : Int} {m : Nat} (hr : rises l) (hm : l[m]? = some y) (h : x ≤ y) : Hi l x m := by
  intro p a hp hpm
  rcases Nat.lt_or_ge m p with hlt | hge
  · have := hr m p y a hlt hm hp; omega
  · have : p = m := by omega
    subst this
    rw [hm] at hp; injection hp with hp; omega

end Go.Proofs.YtibbohebmmahmaaGreatDoor
/- Chapter 3 and the small parts of chapter 2: row.Check, cut.Check, row.In, row.Fits, cut.At. Conditions: as each lemma names (a slice reads as a list; cut.At: cuts that rise). -/
namespace Go.Proofs.YtibbohebmmahmaaGreatDoor
set_option linter.unusedVariables false
set_option linter.unusedSimpArgs false
open Go.RowKit

def nilC : Int := -1125899906842624
def rowGood (c : Int) : Bool := (c == nilC) || cellB c
def rowE (l : List Int) : Int := if 8 < l.length then 4 else if l.all rowGood then 0 else 1

theorem rowE_bad {l : List Int} {k : Nat} {x : Int} (h : l[k]? = some x) (hx : rowGood x = false) (hl : l.length ≤ 8) : rowE l = 1 := by
  unfold rowE
  rw [if_neg (by omega), if_neg]
  intro ha
  rw [List.all_eq_true] at ha
  have := ha x (List.mem_of_getElem? h)
  rw [hx] at this
  cases this
theorem rowE_good {l : List Int} (h : ∀ x ∈ l, rowGood x = true) (hl : l.length ≤ 8) : rowE l = 0 := by
  unfold rowE
  rw [if_neg (by omega), if_pos (List.all_eq_true.2 h)]
theorem rowGood_nil : rowGood (-1125899906842624) = true := by decide
theorem rowGood_cell {x : Int} (h1 : -1000000 ≤ x) (h2 : x ≤ 1000000) : rowGood x = true := by
  unfold rowGood; rw [cellB_t.2 ⟨h1, h2⟩]; simp
theorem rowGood_not {x : Int} (h : x ≠ -1125899906842624) (h2 : x < -1000000 ∨ 1000000 < x) : rowGood x = false := by
  unfold rowGood nilC; rw [cellB_f.2 h2]; simpa using h

set_option maxHeartbeats 400000 in
theorem rowCheck_any (A : Option Addr) (n c : Nat) (l : List Int) (w : World) (B : Nat) (ha : IReads w B A n l) (hn : n ≤ maxLen) :
    Calls Tryz.prog 41 #[.slice A n c] w fun e w' => e = .returned (errV (rowE l)) ∧ w = w' := by
  unfold maxLen at hn
  have hl := ha.len
  by_cases h8 : 8 < n
  · have HE : Hid (rowE l = 4) := hide (by unfold rowE; rw [if_pos (by omega)])
    clear hl
    go_enter Tryz.func41, Tryz.ntmps41
    go_wp2
    go_ret
    exact ⟨by rw [unhide HE]; rfl, rfl⟩
  · have HL := hide hl
    clear hl
    go_enter Tryz.func41, Tryz.ntmps41
    go_wp2
    go_loop [11] (fun i => ∃ k : Nat, k ≤ n ∧ i = .int .i64 k ∧ Hid (∀ x ∈ l.take k, rowGood x = true)) (fun i => n - (intOf i).toNat)
    case atStart => exact ⟨0, Nat.zero_le _, rfl, hide (by simp)⟩
    case round =>
      obtain ⟨k, hk, rfl, HG⟩ := hrel
      by_cases hlt : k < n
      · obtain ⟨b, o, x, rfl, _, hx, hcx⟩ := ha.get hlt
        have HX := hide hx
        clear hx
        by_cases h0 : x = -1125899906842624
        · subst h0
          go_wp2
          go_round
          case rel => exact ⟨k + 1, by omega, by go_num, hide (all_next (unhide HX) (unhide HG) rowGood_nil)⟩
          case measure => simp [intOf]; omega
        · by_cases h1 : -1000000 ≤ x
          · by_cases h2 : x ≤ 1000000
            · go_wp2
              go_round
              case rel => exact ⟨k + 1, by omega, by go_num, hide (all_next (unhide HX) (unhide HG) (rowGood_cell h1 h2))⟩
              case measure => simp [intOf]; omega
            · go_wp2
              go_ret
              exact ⟨by rw [rowE_bad (unhide HX) (rowGood_not h0 (by omega)) (by have := unhide HL; omega)]; rfl, rfl⟩
          · go_wp2
            go_ret
            exact ⟨by rw [rowE_bad (unhide HX) (rowGood_not h0 (by omega)) (by have := unhide HL; omega)]; rfl, rfl⟩
      · go_wp2
        go_ret
        have h1 := unhide HL
        have h2 := unhide HG
        rw [List.take_of_length_le (by omega)] at h2
        exact ⟨by rw [rowE_good h2 (by omega)]; rfl, rfl⟩

end Go.Proofs.YtibbohebmmahmaaGreatDoor
/- row.In, row.Fits, cut.At: spans and bins. Conditions: as each lemma names. -/
namespace Go.Proofs.YtibbohebmmahmaaGreatDoor
set_option linter.unusedVariables false
set_option linter.unusedSimpArgs false
open Go.RowKit

/-! ### rows of structs -/
theorem flatMap_at {α : Type} (f : α → List Value) (size : Nat) (hf : ∀ a, (f a).length = size) : ∀ (l : List α) (k j : Nat) (a : α), l[k]? = some a → j < size → (l.flatMap f)[k * size + j]? = (f a)[j]? := by
  intro l
  induction l with
  | nil => intro k j a h; simp at h
  | cons x r ih =>
    intro k j a h hj
    cases k with
    | zero =>
      simp at h; subst h
      rw [List.flatMap_cons, Nat.zero_mul, Nat.zero_add, List.getElem?_append_left (by rw [hf]; exact hj)]
    | succ k =>
      rw [List.flatMap_cons, List.getElem?_append_right (by rw [hf, Nat.succ_mul]; omega), hf]
      have : (k + 1) * size + j - size = k * size + j := by rw [Nat.succ_mul]; omega
      rw [this]
      exact ih k j a (by simpa using h) hj
theorem flatMap_len {α : Type} (f : α → List Value) (size : Nat) (hf : ∀ a, (f a).length = size) (l : List α) : (l.flatMap f).length = l.length * size := by
  induction l with
  | nil => simp
  | cons x r ih => rw [List.flatMap_cons, List.length_append, ih, hf, List.length_cons, Nat.succ_mul]; omega

structure Sp where
  low : Int
  high : Int
  ab : Bool
def Sp.cells (s : Sp) : List Value := [.int .i64 s.low, .int .i64 s.high, .bool s.ab]
def SReads (w : World) (B : Nat) (A : Option Addr) (n : Nat) (l : List Sp) : Prop := Reads w B 3 A n (l.flatMap Sp.cells)
section
variable {w w' : World} {B B' n : Nat} {A : Option Addr} {l : List Sp}
theorem SReads.len (h : SReads w B A n l) : l.length = n := by
  have := h.1
  rw [flatMap_len Sp.cells 3 (fun _ => rfl)] at this
  omega
theorem SReads.get (h : SReads w B A n l) {k : Nat} (hk : k < n) :
    ∃ b off s, A = some ⟨b, off, none⟩ ∧ b < B ∧ l[k]? = some s ∧ w.cell? ⟨b, off + k * 3, none⟩ = some (.int .i64 s.low) ∧ w.cell? ⟨b, off + k * 3 + 1, none⟩ = some (.int .i64 s.high) ∧ w.cell? ⟨b, off + k * 3 + 2, none⟩ = some (.bool s.ab) := by
  obtain ⟨b, off, rfl, hb, hc⟩ := Reads.spot h (by omega) (by omega)
  have hl : k < l.length := by rw [h.len]; exact hk
  have hs : l[k]? = some l[k] := List.getElem?_eq_getElem hl
  have F := fun j hj => flatMap_at Sp.cells 3 (fun _ => rfl) l k j l[k] hs hj
  refine ⟨b, off, l[k], rfl, hb, hs, ?_, ?_, ?_⟩
  · exact hc (k * 3 + 0) _ (F 0 (by omega))
  · exact hc (k * 3 + 1) _ (F 1 (by omega))
  · exact hc (k * 3 + 2) _ (F 2 (by omega))
theorem SReads.below (h : SReads w B A n l) (hb : Below B w w') : SReads w' B A n l := Reads.below h hb
theorem SReads.more (h : SReads w B A n l) (hB : B ≤ B') : SReads w B' A n l := Reads.more h hB
end

def inB (c : Int) (s : Sp) : Bool := if c = -1125899906842624 then s.ab else decide (s.low ≤ c) && decide (c ≤ s.high)
/-- what row.Fits answers -/
def fitsE (l : List Int) (s : List Sp) : Int := if rowE l = 0 then (if l.length = s.length then 0 else 3) else rowE l
def fitsB (l : List Int) (s : List Sp) : Bool := fitsE l s == 0 && (l.zip s).all fun p => inB p.1 p.2

theorem fits_err {l : List Int} {s : List Sp} (h : fitsE l s ≠ 0) : fitsB l s = false := by
  unfold fitsB; rw [beq_eq_false_iff_ne.2 h]; rfl
theorem zip_at {α β : Type} {l : List α} {s : List β} {k : Nat} {x : α} {y : β} (hx : l[k]? = some x) (hy : s[k]? = some y) : (l.zip s)[k]? = some (x, y) := by
  rw [List.getElem?_zip_eq_some]; exact ⟨hx, hy⟩
theorem fits_no {l : List Int} {s : List Sp} {k : Nat} {x : Int} {y : Sp} (hx : l[k]? = some x) (hy : s[k]? = some y) (h : inB x y = false) : fitsB l s = false := by
  unfold fitsB
  rw [Bool.and_eq_false_iff]
  right
  rw [Bool.eq_false_iff]
  intro ha
  rw [List.all_eq_true] at ha
  have := ha _ (List.mem_of_getElem? (zip_at hx hy))
  rw [h] at this
  cases this
theorem fits_next {l : List Int} {s : List Sp} {k : Nat} {x : Int} {y : Sp} (hx : l[k]? = some x) (hy : s[k]? = some y) (h : ∀ p ∈ (l.zip s).take k, inB p.1 p.2 = true) (hi : inB x y = true) : ∀ p ∈ (l.zip s).take (k + 1), inB p.1 p.2 = true := by
  rw [take_next (zip_at hx hy)]
  intro p hp
  rcases List.mem_append.1 hp with hp | hp
  · exact h p hp
  · simp at hp; subst hp; exact hi
theorem fits_yes {l : List Int} {s : List Sp} {k : Nat} (he : fitsE l s = 0) (hk : l.length ≤ k) (h : ∀ p ∈ (l.zip s).take k, inB p.1 p.2 = true) : fitsB l s = true := by
  unfold fitsB
  rw [he]
  rw [List.take_of_length_le (by rw [List.length_zip]; omega)] at h
  simpa [List.all_eq_true] using h

end Go.Proofs.YtibbohebmmahmaaGreatDoor
